/- The engine, part b: the verification condition of a function's code, by recursion on the code (definitions alone). -/
import Derived.Test.YtjcjlhpabjjflaaEa
namespace Go.Proofs.Ytjcjlhpabjjflaa
open Go

/- ## Frames as lists -/
def lget : List Value → Nat → Value
  | [], _ => undef
  | v :: _, 0 => v
  | _ :: l, n + 1 => lget l n
def lset : List Value → Nat → Value → List Value
  | [], _, _ => []
  | _ :: l, 0, v => v :: l
  | x :: l, n + 1, v => x :: lset l n v
def lput (t : List Value) (d : Option Tmp) (v : Value) : List Value :=
  match d with
  | some i => lset t i v
  | none => t
def ev (t : List Value) : Operand → Value
  | .tmp i => lget t i
  | .const v => v
  | .global g => .pointer (some ⟨g, 0, none⟩)
  | .func f => .func (.func f) #[] #[]

/- ## Shapes of values -/
inductive Sh where
  | i (k : IntKind) | b | s | p | sl | m | v
def shOf : Value → Sh
  | .int k _ => .i k
  | .bool _ => .b
  | .string _ => .s
  | .pointer _ => .p
  | .slice .. => .sl
  | .map _ => .m
  | _ => .v
def Sh.Ex (x : Sh) (f : Value → Prop) : Prop :=
  match x with
  | .i k => ∃ n : Int, f (.int k n)
  | .b => ∃ c : Bool, f (.bool c)
  | .s => ∃ s : ByteArray, f (.string s)
  | .p => ∃ a : Option Addr, f (.pointer a)
  | .sl => ∃ (a : Option Addr) (n c : Nat), f (.slice a n c)
  | .m => ∃ r : Option Nat, f (.map r)
  | .v => ∃ v : Value, f v
def exL : List Value → (List Value → Prop) → Prop
  | [], f => f []
  | z :: l, f => (shOf z).Ex fun v => exL l fun vs => f (v :: vs)
def exE (z : Value) (f : Value → Prop) : Prop :=
  match z with
  | .agg cs => exL cs.toList fun vs => f (.agg vs.toArray)
  | z => (shOf z).Ex f
def exT : List Value → (List Value → Prop) → Prop
  | [], f => f []
  | z :: l, f => exE z fun v => exT l fun vs => f (v :: vs)
/-- Some value of the zero value's shape. -/
def exZ (z : Value) (f : Value → Prop) : Prop :=
  match z with
  | .tuple cs => exT cs.toList fun vs => f (.tuple vs.toArray)
  | z => exE z f

/- ## Stuck eliminators (they reduce where their argument is written out) -/
def onPtr (a : Option Addr) (K : Nat → Nat → Prop) : Prop :=
  match a with
  | some ⟨b, o, none⟩ => K b o
  | _ => False
def addO (o n : Nat) : Nat := cond (Nat.beq n 0) o (o + n)
def bcase (v : Value) (A B : Prop) : Prop :=
  match v with
  | .bool c => cond c A B
  | _ => False

/- ## The layout of a type's variables -/
inductive Lay where
  | one (z : Value)
  | many (cs : List Value)
def layOf (P : Program) (t : TypeId) : Option Lay :=
  match P.underlying t, P.info? t with
  | some (.struct _), some i | some (.array ..), some i =>
    match i.zero with
    | some (.agg cs) => if cs.size = i.size then some (.many cs.toList) else none
    | _ => none
  | some _, some i =>
    match i.zero with
    | some z => if single z = true ∧ i.size = 1 then some (.one z) else none
    | none => none
  | _, _ => none

def loadS (h : Heap) (b o : Nat) : List Value → Nat → (List Value → Prop) → Prop
  | [], _, K => K []
  | z :: l, i, K => (shOf z).Ex fun v => hcell h ⟨b, addO o i, none⟩ = some v ∧ loadS h b o l (i + 1) fun vs => K (v :: vs)
def loadK (P : Program) (t : TypeId) (a : Option Addr) (h : Heap) (K : Value → Prop) : Prop :=
  match layOf P t with
  | some (.one z) => onPtr a fun b o => (shOf z).Ex fun v => hcell h ⟨b, o, none⟩ = some v ∧ K v
  | some (.many cs) => onPtr a fun b o => loadS h b o cs 0 fun vs => K (.agg vs.toArray)
  | none => False
/-- A store of one cell. -/
def stK (h : Heap) (a : Addr) (v : Value) (K : Heap → Prop) : Prop :=
  single v = true ∧ (∃ u, hcell h a = some u) ∧ hfroz h a = false ∧ K (hset h a v)
/-- A new block. -/
def newB (h : Heap) (o : Obj) (K : Nat → Heap → Prop) : Prop := K h.size (h.push o)
def storeS (b o : Nat) : List Value → Nat → Heap → (Heap → Prop) → Prop
  | [], _, h, K => K h
  | v :: l, i, h, K => stK h ⟨b, addO o i, none⟩ v fun h' => storeS b o l (i + 1) h' K
def storeK (P : Program) (t : TypeId) (a : Option Addr) (x : Value) (h : Heap) (K : Heap → Prop) : Prop :=
  match layOf P t, x with
  | some (.one _), x => onPtr a fun b o => stK h ⟨b, o, none⟩ x K
  | some (.many cs), .agg vs => onPtr a fun b o => cond (Nat.beq cs.length vs.toList.length) (storeS b o vs.toList 0 h K) False
  | _, _ => False

/- ## Operations that leave the heap alone -/
/-- A run of steps that do not look at the heap. -/
def XWp {α : Type} (P : Program) : Sem α → (α → Prop) → Prop
  | .pure a, K => K a
  | .program k, K => XWp P (k P) K
  | .mark _ k, K => XWp P k K
  | _, _ => False
/-- A run of steps that only read the heap. -/
def PWp {α : Type} (P : Program) : Sem α → Heap → (α → Prop) → Prop
  | .pure a, _, K => K a
  | .load _ a k, h, K => ∃ v, hcell h a = some v ∧ PWp P (k v) h K
  | .shape r k, h, K => PWp P (k (hshape h r)) h K
  | .frozen a k, h, K => PWp P (k (hfroz h a)) h K
  | .getObj r k, h, K => ∃ o, h[r]? = some o ∧ isCells o = false ∧ PWp P (k o) h K
  | .program k, h, K => PWp P (k P) h K
  | .mark _ k, h, K => PWp P k h K
  | _, _, _ => False

def kindNo : IntKind → Nat
  | .i8 => 0 | .i16 => 1 | .i32 => 2 | .i64 => 3 | .u8 => 4 | .u16 => 5 | .u32 => 6 | .u64 => 7
def eqV : Value → Value → Option Bool
  | .int k a, .int k' b => cond (Nat.beq (kindNo k) (kindNo k')) (some (a == b)) none
  | .bool a, .bool b => some (a == b)
  | .string a, .string b => some (a.toList == b.toList)
  | _, _ => none
def eqL : List Value → List Value → Option Bool
  | [], [] => some true
  | x :: xs, y :: ys =>
    match eqV x y, eqL xs ys with
    | some a, some b => some (a && b)
    | _, _ => none
  | _, _ => none
/-- Fields one behind the other, each of one cell, each of a plain type, none of them blank. -/
def flat (P : Program) : List Field → Nat → Bool
  | [], _ => true
  | f :: l, i => (f.offset == i) && (f.name != "_") && (match P.underlying f.type with | some .bool | some (.int _) | some .string => true | _ => false) && flat P l (i + 1)

/-- The cells are of the fields' kinds. -/
def fits (P : Program) : List Field → List Value → Bool
  | [], [] => true
  | f :: fs, v :: vs => (match P.underlying f.type, v with | some .bool, .bool _ => true | some (.int _), .int _ _ => true | some .string, .string _ => true | _, _ => false) && fits P fs vs
  | _, _ => false

def intK (op : BinOp) (k : IntKind) (x y : Int) (K : Value → Prop) : Prop :=
  match op with
  | .add => K (.int k (k.wrap (x + y)))
  | .sub => K (.int k (k.wrap (x - y)))
  | .mul => K (.int k (k.wrap (x * y)))
  | .quo => y ≠ 0 ∧ K (.int k (k.wrap (x.tdiv y)))
  | .rem => y ≠ 0 ∧ K (.int k (x.tmod y))
  | .eql => K (.bool (x == y))
  | .neq => K (.bool (x != y))
  | .lss => K (.bool (x < y))
  | .leq => K (.bool (x ≤ y))
  | .gtr => K (.bool (x > y))
  | .geq => K (.bool (x ≥ y))
  | .and => K (.int k (k.wrap (BitVec.ofInt k.bits x &&& BitVec.ofInt k.bits y).toNat))
  | .or => K (.int k (k.wrap (BitVec.ofInt k.bits x ||| BitVec.ofInt k.bits y).toNat))
  | .xor => K (.int k (k.wrap (BitVec.ofInt k.bits x ^^^ BitVec.ofInt k.bits y).toNat))
  | .andNot => K (.int k (k.wrap (BitVec.ofInt k.bits x &&& ~~~BitVec.ofInt k.bits y).toNat))
  | .shl => 0 ≤ y ∧ K (.int k (k.wrap (x * 2 ^ (min y.toNat k.bits))))
  | .shr => 0 ≤ y ∧ K (.int k (x.fdiv (2 ^ (min y.toNat k.bits))))
def nilEq (op : BinOp) (z : Bool) (K : Value → Prop) : Prop :=
  match op with
  | .eql => K (.bool z)
  | .neq => K (.bool !z)
  | _ => False
def strK (op : BinOp) (x y : ByteArray) (K : Value → Prop) : Prop :=
  match op with
  | .add => x.size + y.size < 9223372036854775808 ∧ K (.string (x ++ y))
  | .eql => K (.bool (x.toList == y.toList))
  | .neq => K (.bool !(x.toList == y.toList))
  | .lss => K (.bool (Op.bytesLess x.toList y.toList))
  | .leq => K (.bool (Op.bytesLess x.toList y.toList || x.toList == y.toList))
  | .gtr => K (.bool !(Op.bytesLess x.toList y.toList || x.toList == y.toList))
  | .geq => K (.bool !(Op.bytesLess x.toList y.toList))
  | _ => False
def kindEq (k k' : IntKind) (A : Prop) : Prop := cond (Nat.beq (kindNo k) (kindNo k')) A False
def binK (P : Program) (op : BinOp) (T : TypeId) (x y : Value) (K : Value → Prop) : Prop :=
  match x, y with
  | .int k a, .int k' b =>
    match op with
    | .shl => 0 ≤ b ∧ K (.int k (k.wrap (a * 2 ^ (min b.toNat k.bits))))
    | .shr => 0 ≤ b ∧ K (.int k (a.fdiv (2 ^ (min b.toNat k.bits))))
    | op => kindEq k k' (intK op k a b K)
  | .string a, .string b => strK op a b K
  | .bool a, .bool b => match P.underlying T with | some .bool => nilEq op (a == b) K | _ => False
  | .pointer a, .pointer none => match P.underlying T with | some (.pointer _) => nilEq op a.isNone K | _ => False
  | .slice a _ _, .slice none _ _ => match P.underlying T with | some (.slice _) => nilEq op a.isNone K | _ => False
  | .map a, .map none => match P.underlying T with | some (.map ..) => nilEq op a.isNone K | _ => False
  | .agg xs, .agg ys =>
    match P.underlying T with
    | some (.struct fs) => cond (flat P fs.toList 0 && !P.stoodInHeld T && !P.eqGuardType P.depth T)
        (cond (fits P fs.toList xs.toList && Nat.beq xs.toList.length fs.toList.length && Nat.beq ys.toList.length fs.toList.length)
          (match eqL xs.toList ys.toList with | some c => nilEq op c K | none => False) False) False
    | _ => False
  | _, _ => False

def pickK (c a b : Value) (K : Value → Prop) : Prop :=
  match c, a, b with
  | .bool c, .bool x, .bool y => K (.bool (cond c x y))
  | .bool c, a, b => cond c (K a) (K b)
  | _, _, _ => False

def lay1 (P : Program) (t : TypeId) : Nat := ((P.info? t).map (·.size)).getD 0

def subN (a b : Nat) : Nat := cond (Nat.beq b 0) a (a - b)
/-- The address of a part of a slice. -/
def slA (a : Option Addr) (c l s : Nat) : Option Addr := cond (Nat.beq l 0) a (if c = l then a else a.map fun x => ⟨x.block, x.off + l * s, none⟩)
def leK (c : Bool) (l r : Int) (K : Prop) : Prop := cond c K (l ≤ r ∧ K)
def nz (n : Nat) (A : Prop) : Prop := cond (Nat.beq n 0) False A

/-- 'vs' in the place of what stands from 'o' on. -/
def splice : List Value → Nat → List Value → List Value
  | l, _, [] => l
  | [], _, _ => []
  | _ :: l, 0, v :: vs => v :: splice l 0 vs
  | x :: l, n + 1, v :: vs => x :: splice l n (v :: vs)
def fillL (place : Nat → Option (Nat × Nat)) : List Value → List (Nat × Value) → Option (List Value)
  | l, [] => some l
  | l, (i, v) :: rest =>
    match place i with
    | none => none
    | some (o, s) => cond (Nat.beq v.cells.toList.length s && Nat.ble (o + v.cells.toList.length) l.length) (fillL place (splice l o v.cells.toList) rest) none
def placeOf (P : Program) (fs : List Field) (i : Nat) : Option (Nat × Nat) :=
  match fs[i]? with
  | some f => some (f.offset, lay1 P f.type)
  | none => none
def allLaid (P : Program) : List Field → Bool
  | [] => true
  | f :: fs => !Nat.beq (lay1 P f.type) 0 && allLaid P fs

/-- Which operations neither look at the heap nor turn it. -/
def pureOp (o : Oper) : Bool :=
  match o.op with
  | .move _ | .assign _ | .pick .. | .nilCheck _ | .binOp .. | .unOp .. | .convert .. | .makeFunc .. | .fieldAddr .. | .field .. | .indexAddr .. | .index .. | .extract .. | .slice .. | .build .. => true
  | .call { callee := .builtin .len, argTypes := _, args := _ } => false
  | .call { callee := .builtin .min, .. } | .call { callee := .builtin .max, .. } => true
  | _ => false
/-- Which operations only look at the heap. -/
def readOp (o : Oper) : Bool :=
  match o.op with
  | .load .. | .lookup .. => true
  | .call { callee := .builtin .len, .. } => true
  | _ => false
def nextV (K : Value → Prop) : Next → Prop
  | .value v => K v
  | _ => False
/-- The bound that a slice expression gives. -/
def bnd (t : List Value) (x : Option Operand) (d : Int) : Option Int :=
  match x with
  | none => some d
  | some x => match ev t x with | .int _ i => some i | _ => none
def pureK (P : Program) (t : List Value) (o : Oper) (K : Value → Prop) : Prop :=
  match o.op with
  | .move x | .assign x => K (ev t x)
  | .pick c a b => pickK (ev t c) (ev t a) (ev t b) K
  | .nilCheck x =>
    match ev t x with
    | .pointer a => onPtr a fun b o => K (.pointer (some ⟨b, o, none⟩))
    | .func (.func f) a b => K (.func (.func f) a b)
    | _ => False
  | .binOp op T x y _ => binK P op T (ev t x) (ev t y) K
  | .fieldAddr s x f =>
    match P.underlying s, ev t x with
    | some (.struct fs), .pointer a =>
      match fs[f]? with
      | some fd => nz (lay1 P fd.type) (onPtr a fun b o => K (.pointer (some ⟨b, addO o fd.offset, none⟩)))
      | none => False
    | _, _ => False
  | .indexAddr T x i =>
    match P.underlying T, ev t x, ev t i with
    | some (.slice e), .slice a n _, .int _ i => onPtr a fun b o => 0 ≤ i ∧ i < n ∧ nz (lay1 P e) (K (.pointer (some ⟨b, o + i.toNat * lay1 P e, none⟩)))
    | some (.array n e), .pointer a, .int _ i => onPtr a fun b o => 0 ≤ i ∧ i < n ∧ nz (lay1 P e) (K (.pointer (some ⟨b, o + i.toNat * lay1 P e, none⟩)))
    | _, _, _ => False
  | .index T x i =>
    match P.underlying T, ev t x, ev t i with
    | some .string, .string s, .int _ i => 0 ≤ i ∧ i < s.size ∧ K (.int .u8 (s.data.getD i.toNat 0).toNat)
    | _, _, _ => XWp P (execOp (ev t) o) (nextV K)
  | .build T ps =>
    match P.underlying T, P.info? T with
    | some (.struct fs), some i =>
      match i.zero with
      | some (.agg cs) => cond (allLaid P fs.toList)
        (match fillL (placeOf P fs.toList) cs.toList (ps.toList.map fun p => (p.1, ev t p.2)) with
          | some l => K (.agg l.toArray)
          | none => False) False
      | _ => False
    | _, _ => XWp P (execOp (ev t) o) (nextV K)
  | .slice T x lo hi mx =>
    match P.underlying T, ev t x, mx with
    | some (.slice e), .slice a n c, none =>
      match bnd t lo 0, bnd t hi n with
      | some l, some r => leK lo.isNone 0 l (l ≤ r ∧ r ≤ c ∧ nz (lay1 P e) (K (.slice (slA a c l.toNat (lay1 P e)) (subN r.toNat l.toNat) (subN c l.toNat))))
      | _, _ => False
    | some .string, .string s, none =>
      match bnd t lo 0, bnd t hi s.size with
      | some l, some r => leK lo.isNone 0 l (l ≤ r ∧ r ≤ s.size ∧ K (.string (s.extract l.toNat r.toNat)))
      | _, _ => False
    | _, _, _ => False
  | _ => XWp P (execOp (ev t) o) (nextV K)
def zeroOf (P : Program) (t : TypeId) : Value := (((P.info? t).bind (·.zero))).getD undef
def lookK (P : Program) (T : TypeId) (m k : Value) (ok : Bool) (h : Heap) (K : Value → Prop) : Prop := PWp P (Instr.lookup T m k ok) h K
def lenMapK (h : Heap) (r : Option Nat) (K : Int → Prop) : Prop :=
  match r with
  | none => K 0
  | some b => ∃ es c, h[b]? = some (.map es c) ∧ K es.size
def readK (P : Program) (t : List Value) (o : Oper) (h : Heap) (K : Value → Prop) : Prop :=
  match o.op with
  | .load T a =>
    match ev t a with
    | .pointer a => loadK P T a h K
    | _ => False
  | .lookup T m k ok => lookK P T (ev t m) (ev t k) ok h fun v => exZ (zeroOf P o.type) fun v' => v = v' ∧ K v'
  | .call c =>
    match c.callee with
    | .builtin .len =>
      match c.args[0]?, c.argTypes[0]? with
      | some x, some T =>
        match P.underlying T, ev t x with
        | some .string, .string s => K (.int .i64 s.size)
        | some (.slice _), .slice _ n _ => K (.int .i64 n)
        | some (.map ..), .map r => lenMapK h r fun n => K (.int .i64 n)
        | _, _ => False
      | _, _ => False
    | _ => False
  | _ => False

/- ## Operations that turn the heap; calls -/
/-- Which slots (and of which shapes) a loop, or a joint, is spoken of in; which map type an iterator is of. -/
abbrev Hints := List (Nat × List (Nat × Sh))
structure Hn where
  hs : Hints
  js : Hints
  rs : List (Nat × TypeId)
def rsOf : List (Nat × TypeId) → Operand → TypeId
  | (s, T) :: l, .tmp n => cond (Nat.beq s n) T (rsOf l (.tmp n))
  | _, _ => 0
def CallV (P : Program) (f : Value) (args : List Value) (h : Heap) (R : Value → Heap → Prop) : Prop :=
  match f with
  | .func (.func g) first captured => Run P g (first.toList ++ args ++ captured.toList) h R
  | _ => False
def nextK (P : Program) (K : Value → Heap → Prop) : Next → Heap → Prop
  | .value v, h => K v h
  | .skip, h => K undef h
  | .enter f args, h => Run P f args.toList h K
  | _, _ => False
def appK (P : Program) (ts : Array TypeId) (T : TypeId) (s x : Value) (h : Heap) (K : Value → Heap → Prop) : Prop := SWp P (Builtin.append_ ts T #[s, x]) h K
def copyK (P : Program) (ts : Array TypeId) (T : TypeId) (s x : Value) (h : Heap) (K : Value → Heap → Prop) : Prop := SWp P (Builtin.copy_ ts T #[s, x]) h K
def delK (P : Program) (ts : Array TypeId) (T : TypeId) (s x : Value) (h : Heap) (K : Value → Heap → Prop) : Prop := SWp P (Builtin.delete_ ts T #[s, x]) h K
def updK (P : Program) (T : TypeId) (m k v : Value) (h : Heap) (K : Heap → Prop) : Prop := SWp P (Instr.mapUpdate T m k v) h fun _ h' => K h'
def makeK (P : Program) (T : TypeId) (l c : Value) (h : Heap) (K : Value → Heap → Prop) : Prop := SWp P (Instr.makeSlice T l c) h K
def rangeK (P : Program) (T : TypeId) (x : Value) (h : Heap) (K : Value → Heap → Prop) : Prop := SWp P (Instr.range T x) h K
def nextM (P : Program) (it : Value) (h : Heap) (E : Heap → Prop) (K : Value → Value → Heap → Prop) : Prop :=
  SWp P (Instr.next it false 0) h fun v h' => (v = .tuple #[.bool false] ∧ E h') ∨ ∃ k x : Value, v = .tuple #[.bool true, k, x] ∧ K k x h'
def nextS (P : Program) (it : Value) (h : Heap) (E : Heap → Prop) (K : Int → Int → Heap → Prop) : Prop :=
  SWp P (Instr.next it true 0) h fun v h' => (v = .tuple #[.bool false] ∧ E h') ∨ ∃ i c : Int, v = .tuple #[.bool true, .int .i64 i, .int .i32 c] ∧ K i c h'
def entryM (P : Program) (it : Value) (h : Heap) (K : Value → Heap → Prop) : Prop := SWp P (Instr.entry it) h K
def entryK (P : Program) (T : TypeId) (it : Value) (h : Heap) (K : Value → Heap → Prop) : Prop :=
  match P.underlying T with
  | some (.map k e) => entryM P it h fun v h' => exE (zeroOf P k) fun a => exE (zeroOf P e) fun b => v = .tuple #[a, b] ∧ K (.tuple #[a, b]) h'
  | _ => False
def mapEntryK (P : Program) (T : TypeId) (m k : Value) (h : Heap) (K : Value → Heap → Prop) : Prop := SWp P (Instr.mapEntry T m k) h K
def entryStK (P : Program) (T : TypeId) (m s v : Value) (h : Heap) (K : Heap → Prop) : Prop := SWp P (Instr.entryStore T m s v) h fun _ h' => K h'
def typed (P : Program) (T : TypeId) (K : Value → Heap → Prop) (v : Value) (h : Heap) : Prop := exZ (zeroOf P T) fun v' => v = v' ∧ K v' h
def effK (P : Program) (H : Hn) (t : List Value) (o : Oper) (h : Heap) (K : Value → Heap → Prop) : Prop :=
  match o.op with
  | .store T a x =>
    match ev t a with
    | .pointer a => storeK P T a (ev t x) h (K undef)
    | _ => False
  | .box T x => newB h (.cells (ev t x).cells T) fun b h' => K (.pointer (some ⟨b, 0, none⟩)) h'
  | .alloc T => match (P.info? T).bind (·.zero) with
    | some z => newB h (.cells z.cells T) fun b h' => K (.pointer (some ⟨b, 0, none⟩)) h'
    | none => False
  | .buildSlice T n ps =>
    match P.underlying T with
    | some (.slice e) =>
      match P.info? e with
      | some i =>
        match i.zero with
        | some z => cond (Nat.ble (n * i.size) 16777216 && !Nat.beq (n * i.size) 0)
          (match fillL (fun j => some (j * i.size, i.size)) ((List.range (n * i.size)).map fun j => z.cells[j % z.cells.size]!) (ps.toList.map fun p => (p.1, ev t p.2)) with
          | some l => newB h (.cells l.toArray e) fun b h' => K (.slice (some ⟨b, 0, none⟩) n n) h'
          | none => False) False
        | none => False
      | none => False
    | _ => False
  | .makeMap _ none => newB h (.map #[] 0) fun b h' => K (.map (some b)) h'
  | .mapUpdate T m k v => updK P T (ev t m) (ev t k) (ev t v) h (K undef)
  | .makeSlice T l c => makeK P T (ev t l) (ev t c) h (typed P o.type K)
  | .range T x => rangeK P T (ev t x) h K
  | .mapEntry T m k => mapEntryK P T (ev t m) (ev t k) h K
  | .entryStore T m s v => entryStK P T (ev t m) (ev t s) (ev t v) h (K undef)
  | .call c =>
    match c.callee with
    | .value f => CallV P (ev t f) (c.args.toList.map (ev t)) h (typed P o.type K)
    | .builtin .append => match c.args.toList with
      | [s, x] => appK P c.argTypes o.type (ev t s) (ev t x) h (typed P o.type K)
      | _ => False
    | .builtin .copy => match c.args.toList with
      | [s, x] => copyK P c.argTypes o.type (ev t s) (ev t x) h (typed P o.type K)
      | _ => False
    | .builtin .delete => match c.args.toList with
      | [s, x] => delK P c.argTypes o.type (ev t s) (ev t x) h K
      | _ => False
    | _ => SWp P (execOp (ev t) o) h (nextK P K)
  | .next it false => nextM P (ev t it) h (fun h' => K (.tuple #[.bool false]) h') (fun a b h' => K (.tuple #[.bool true, a, b]) h')
  | .next it true => nextS P (ev t it) h (fun h' => K (.tuple #[.bool false]) h') (fun i c h' => K (.tuple #[.bool true, .int .i64 i, .int .i32 c]) h')
  | .entry it => entryK P (rsOf H.rs it) (ev t it) h K
  | _ => SWp P (execOp (ev t) o) h (nextK P K)

def opK (P : Program) (H : Hn) (t : List Value) (o : Oper) (h : Heap) (K : Value → Heap → Prop) : Prop :=
  cond (pureOp o) (pureK P t o fun v => K v h) (cond (readOp o) (readK P t o h fun v => K v h) (effK P H t o h K))

/- ## Guards -/
/-- What the guard of an operation says: the slot that it looks at. -/
def guardSlot (ops : List Oper) (o : Oper) : Option (Option Nat × Bool) :=
  match o.guard with
  | none => none
  | some (j, want) => some ((ops[j]?).bind (·.dst), want)
/-- The operation is wanted (A, in the frame that it is given), or not (B). -/
def guarded (ops : List Oper) (o : Oper) (t : List Value) (A B : List Value → Prop) : Prop :=
  match guardSlot ops o with
  | none => A t
  | some (none, _) => B t
  | some (some d, want) =>
    match lget t d with
    | .bool c => cond c (cond want (A (lset t d (.bool true))) (B (lset t d (.bool true)))) (cond want (B (lset t d (.bool false))) (A (lset t d (.bool false))))
    | _ => B t

/- ## Regions -/
def vcOps (P : Program) (H : Hn) (ops : List Oper) (K : List Value → Heap → Prop) : List Oper → List Value → Heap → Prop
  | [], t, h => K t h
  | o :: rest, t, h => guarded ops o t (fun t => opK P H t o h fun v h' => vcOps P H ops K rest (lput t o.dst v) h') (fun t => vcOps P H ops K rest (lput t o.dst undef) h)

/-- May operation i be taken now, 'done' being done? -/
def readyL (ops : List Oper) (done : List Nat) (i : Nat) : Bool :=
  !done.contains i && match ops[i]? with
    | some o => o.after.toList.all fun e => !Region.binds .any e || done.contains e.on
    | none => false
/-- The next one of the canonical order: the first quiet one that is ready; else the first that is ready. -/
def nextOf (ops : List Oper) (done : List Nat) : Option Nat :=
  match (List.range ops.length).find? fun i => readyL ops done i && (match ops[i]? with | some o => pureOp o || readOp o | none => false) with
  | some i => some i
  | none => (List.range ops.length).find? fun i => readyL ops done i
/-- Does j wait for i (through others too)? n: how many steps. -/
def waits (ops : List Oper) : Nat → Nat → Nat → Bool
  | 0, _, _ => false
  | n + 1, i, j =>
    match ops[j]? with
    | some o => o.after.toList.any fun e => Region.binds .any e && (e.on == i || waits ops n i e.on)
    | none => false
/-- What was read may be read again behind operation e, if e does not wait for it. -/
def again (P : Program) (ops : List Oper) (e : Nat) (h : Heap) : List (Nat × Oper × List Value × Value) → Prop → Prop
  | [], K => K
  | (i, o, t, v) :: l, K => cond (waits ops ops.length i e) (again P ops e h l K) (readK P t o h (fun v' => v' = v) ∧ again P ops e h l K)
def vcDraw (P : Program) (H : Hn) (ops : List Oper) (K : List Value → Heap → Prop) : Nat → List Nat → List (Nat × Oper × List Value × Value) → List Value → Heap → Prop
  | 0, _, _, t, h => K t h
  | n + 1, done, held, t, h =>
    match nextOf ops done with
    | none => False
    | some i =>
      match ops[i]? with
      | none => False
      | some o => guarded ops o t
          (fun t => cond (pureOp o) (pureK P t o fun v => vcDraw P H ops K n (i :: done) held (lput t o.dst v) h)
            (cond (readOp o) (readK P t o h fun v => vcDraw P H ops K n (i :: done) ((i, o, t, v) :: held) (lput t o.dst v) h)
              (effK P H t o h fun v h' => again P ops i h' held (vcDraw P H ops K n (i :: done) held (lput t o.dst v) h'))))
          (fun t => vcDraw P H ops K n (i :: done) held (lput t o.dst undef) h)
/-- Is the canonical order one that serves? -/
def drawB (ops : List Oper) : Nat → List Nat → Bool
  | 0, done => (List.range ops.length).all fun i => done.contains i
  | n + 1, done =>
    match nextOf ops done with
    | none => false
    | some i =>
      match ops[i]? with
      | none => false
      | some o =>
        (if pureOp o || readOp o then
          (List.range ops.length).all fun j => j == i || done.contains j || match ops[j]? with
            | some oj => oj.after.toList.any (fun e => Region.binds .any e && e.on == i) || o.apart ops.toArray oj
            | none => true
        else (List.range ops.length).all fun j => j == i || !readyL ops done j) && drawB ops n (i :: done)

/- ## Code -/
inductive Ex where
  | nrm
  | ext (id : Nat)
  | ret
abbrev Post := Ex → List Value → Heap → Prop

def InvT : List Sh → Type
  | [] => Heap → Prop
  | .i _ :: l => Int → InvT l
  | .b :: l => Bool → InvT l
  | .s :: l => ByteArray → InvT l
  | .p :: l => Option Addr → InvT l
  | .sl :: l => Option Addr → Nat → Nat → InvT l
  | .m :: l => Option Nat → InvT l
  | .v :: l => Value → InvT l
def MeaT : List Sh → Type
  | [] => Heap → Nat
  | .i _ :: l => Int → MeaT l
  | .b :: l => Bool → MeaT l
  | .s :: l => ByteArray → MeaT l
  | .p :: l => Option Addr → MeaT l
  | .sl :: l => Option Addr → Nat → Nat → MeaT l
  | .m :: l => Option Nat → MeaT l
  | .v :: l => Value → MeaT l
def app : (l : List Sh) → InvT l → List Value → Heap → Prop
  | [], I, [], h => I h
  | .i k :: l, I, .int k' n :: vs, h => kindEq k k' (app l (I n) vs h)
  | .b :: l, I, .bool c :: vs, h => app l (I c) vs h
  | .s :: l, I, .string s :: vs, h => app l (I s) vs h
  | .p :: l, I, .pointer a :: vs, h => app l (I a) vs h
  | .sl :: l, I, .slice a n c :: vs, h => app l (I a n c) vs h
  | .m :: l, I, .map r :: vs, h => app l (I r) vs h
  | .v :: l, I, v :: vs, h => app l (I v) vs h
  | _, _, _, _ => False
def appM : (l : List Sh) → MeaT l → List Value → Heap → Nat
  | [], m, [], h => m h
  | .i _ :: l, m, .int _ n :: vs, h => appM l (m n) vs h
  | .b :: l, m, .bool c :: vs, h => appM l (m c) vs h
  | .s :: l, m, .string s :: vs, h => appM l (m s) vs h
  | .p :: l, m, .pointer a :: vs, h => appM l (m a) vs h
  | .sl :: l, m, .slice a n c :: vs, h => appM l (m a n c) vs h
  | .m :: l, m, .map r :: vs, h => appM l (m r) vs h
  | .v :: l, m, v :: vs, h => appM l (m v) vs h
  | _, _, _, _ => 0
/-- For all values of these shapes, the invariant's word on them given. -/
def allI : (l : List Sh) → InvT l → Heap → (List Value → Prop) → Prop
  | [], I, h, f => I h → f []
  | .i k :: l, I, h, f => ∀ n : Int, allI l (I n) h fun vs => f (.int k n :: vs)
  | .b :: l, I, h, f => ∀ c : Bool, allI l (I c) h fun vs => f (.bool c :: vs)
  | .s :: l, I, h, f => ∀ s : ByteArray, allI l (I s) h fun vs => f (.string s :: vs)
  | .p :: l, I, h, f => ∀ a : Option Addr, allI l (I a) h fun vs => f (.pointer a :: vs)
  | .sl :: l, I, h, f => ∀ (a : Option Addr) (n c : Nat), allI l (I a n c) h fun vs => f (.slice a n c :: vs)
  | .m :: l, I, h, f => ∀ r : Option Nat, allI l (I r) h fun vs => f (.map r :: vs)
  | .v :: l, I, h, f => ∀ v : Value, allI l (I v) h fun vs => f (v :: vs)

/-- The slots that a piece of code may write. -/
def mods : Code → List Nat
  | .region _ ops _ => ops.toList.filterMap (·.dst) ++ ops.toList.filterMap fun o => match o.guard with | some (j, _) => (ops.toList[j]?).bind (·.dst) | none => none
  | .seq x y => mods x ++ mods y
  | .cond _ x y => mods x ++ mods y
  | .block _ c => mods c
  | .loop c => mods c
  | .scope c => mods c
  | _ => []
/-- Whatever is written is forgotten: 'g' in its place. -/
def garb (md : List Nat) (g : Nat → Value) : List Value → Nat → List Value
  | [], _ => []
  | v :: l, k => cond (md.contains k) (g k) v :: garb md g l (k + 1)
def setAll : List Value → List Nat → List Value → List Value
  | t, i :: is, v :: vs => setAll (lset t i v) is vs
  | t, _, _ => t
def firstRegion : Code → Nat
  | .region id _ _ => id
  | .seq x _ => firstRegion x
  | .cond _ x _ => firstRegion x
  | .block _ c => firstRegion c
  | .loop c => firstRegion c
  | .scope c => firstRegion c
  | _ => 0
def hintOf (hs : Hints) (n : Nat) : List (Nat × Sh) :=
  match hs with
  | [] => []
  | (k, l) :: r => cond (Nat.beq k n) l (hintOf r n)
def hasHint (hs : Hints) (n : Nat) : Bool :=
  match hs with
  | [] => false
  | (k, _) :: r => cond (Nat.beq k n) true (hasHint r n)

/-- Whatever holds of the values by f, k holds. -/
def allTo : (l : List Sh) → InvT l → Heap → (List Value → Prop) → Prop
  | [], I, h, f => f [] → I h
  | .i k :: l, I, h, f => ∀ n : Int, allTo l (I n) h fun vs => f (.int k n :: vs)
  | .b :: l, I, h, f => ∀ c : Bool, allTo l (I c) h fun vs => f (.bool c :: vs)
  | .s :: l, I, h, f => ∀ s : ByteArray, allTo l (I s) h fun vs => f (.string s :: vs)
  | .p :: l, I, h, f => ∀ a : Option Addr, allTo l (I a) h fun vs => f (.pointer a :: vs)
  | .sl :: l, I, h, f => ∀ (a : Option Addr) (n c : Nat), allTo l (I a n c) h fun vs => f (.slice a n c :: vs)
  | .m :: l, I, h, f => ∀ r : Option Nat, allTo l (I r) h fun vs => f (.map r :: vs)
  | .v :: l, I, h, f => ∀ v : Value, allTo l (I v) h fun vs => f (v :: vs)
def slots : List (Nat × Sh) → List Nat
  | [] => []
  | p :: l => p.1 :: slots l
def shapes : List (Nat × Sh) → List Sh
  | [] => []
  | p :: l => p.2 :: shapes l
def vals (t : List Value) : List (Nat × Sh) → List Value
  | [] => []
  | p :: l => lget t p.1 :: vals t l
/-- The frame at a loop's head, or behind a joint. -/
def frameAt (md : List Nat) (t : List Value) (l : List (Nat × Sh)) (g : Nat → Value) (vs : List Value) : List Value :=
  setAll (garb md g t 0) (slots l) vs
def thenQ (K : List Value → Heap → Prop) (Q : Post) : Post
  | .nrm, t, h => K t h
  | .ext i, t, h => Q (.ext i) t h
  | .ret, t, h => Q .ret t h
def blockQ (id : Nat) (Q : Post) : Post
  | .nrm, t, h => Q .nrm t h
  | .ext j, t, h => cond (Nat.beq j id) (Q .nrm t h) (Q (.ext j) t h)
  | .ret, t, h => Q .ret t h

def vc (P : Program) (H : Hn) : Code → Post → List Value → Heap → Prop
  | .skip, Q, t, h => Q .nrm t h
  | .region _ ops d, Q, t, h =>
    cond d (cond (drawB ops.toList ops.toList.length [] && Region.noSelect ops.toList.toArray) (vcDraw P H ops.toList (Q .nrm) ops.toList.length [] [] t h) False) (vcOps P H ops.toList (Q .nrm) ops.toList t h)
  | .seq x y, Q, t, h =>
    cond (hasHint H.js (firstRegion y))
      (∀ k : InvT (shapes (hintOf H.js (firstRegion y))),
        (∀ h' : Heap, allTo _ k h' fun vs => ∀ g : Nat → Value, vc P H y Q (frameAt (mods x) t (hintOf H.js (firstRegion y)) g vs) h') →
        vc P H x (thenQ (fun t' h' => app _ k (vals t' (hintOf H.js (firstRegion y))) h') Q) t h)
      (vc P H x (thenQ (vc P H y Q) Q) t h)
  | .cond c x y, Q, t, h => bcase (ev t c) (vc P H x Q t h) (vc P H y Q t h)
  | .block id c, Q, t, h => vc P H c (blockQ id Q) t h
  | .loop c, Q, t, h =>
    ∃ (I : InvT (shapes (hintOf H.hs (firstRegion c)))) (m : MeaT (shapes (hintOf H.hs (firstRegion c)))),
      app _ I (vals t (hintOf H.hs (firstRegion c))) h ∧
      ∀ (g : Nat → Value) (h' : Heap), allI _ I h' fun vs =>
        vc P H c (thenQ (fun t2 h2 => app _ I (vals t2 (hintOf H.hs (firstRegion c))) h2 ∧ appM _ m (vals t2 (hintOf H.hs (firstRegion c))) h2 < appM _ m vs h') Q)
          (frameAt (mods c) t (hintOf H.hs (firstRegion c)) g vs) h'
  | .exit id, Q, t, h => Q (.ext id) t h
  | .ret, Q, t, h => Q .ret t h
  | .scope c, Q, t, h => vc P H c Q t h
  | .label _, Q, t, h => Q .nrm t h
  | _, _, _, _ => False

/- ## Functions -/
def resS (P : Program) : List ResultVar → List Value → Heap → (List Value → Prop) → Prop
  | [], _, _, K => K []
  | .tmp i :: l, t, h, K => resS P l t h fun vs => K (lget t i :: vs)
  | .cell i T :: l, t, h, K =>
    match lget t i with
    | .pointer a => loadK P T a h fun v => resS P l t h fun vs => K (v :: vs)
    | _ => False
def one : List Value → Value
  | [v] => v
  | vs => .tuple vs.toArray
def vcFun (P : Program) (H : Hn) (fn : Func) (args : List Value) (h : Heap) (R : Value → Heap → Prop) : Prop :=
  match fn.body with
  | none => False
  | some c => vc P H c (fun e t h => match e with | .ext _ => False | .nrm => resS P fn.results.toList t h fun vs => R (one vs) h | .ret => resS P fn.results.toList t h fun vs => R (one vs) h)
      (args ++ List.replicate (fn.ntmps - args.length) undef) h

end Go.Proofs.Ytjcjlhpabjjflaa
