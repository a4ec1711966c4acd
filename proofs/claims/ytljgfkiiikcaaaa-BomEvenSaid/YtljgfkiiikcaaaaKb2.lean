/- The symbolic engine, part g: operations that turn the memory are told rightly. -/
import Derived.Test.YtljgfkiiikcaaaaKb1
import Derived.Test.YtljgfkiiikcaaaaProg
import Derived.Shelf.Bits.Mul64
import Derived.Shelf.SlLaysF0
import Derived.Ground.SlsfProg
import Derived.Shelf.SlSortCmp.NoneTotal
import Derived.ProofKit
import Derived.Deep.Slices
import Derived.RangeFuncIn
import Derived.RangeFuncLeaves
import Derived.RangeFuncRecord
import Derived.OrdersIn
import Derived.TacticsIn
/- The symbolic engine, part a: abstract values and memory; code over them (definitions alone). -/
set_option linter.unusedVariables false
namespace Go.Proofs.Ytljgfkiiikcaaaa
open Go

/- ## Values -/
inductive V where
  | u (x : U)
  | r (b o : Nat)
  | e (b sz : Nat) (k : Int) (o : Nat)
  | g (b o w : Nat) (k : Int)
  | q (c : List U) (o : Nat)
  | w (b : Nat)
  | c (sz : Nat) (rows : List (List U))
  | m (b : Nat)
  | nm
  | nl (s : Nat)
  | f (g : FuncId) (a c : List V)
  | a (l : List V)
  | t (l : List V)
  | n (k : IntKind) (w : Nat) (l : List Int)
  | z
  | y (b : Nat)
abbrev V.i (n : Int) : V := .u (.i .i64 n)
abbrev V.l (s : Nat) (x : List (List U)) : V := .u (.l s x)
/-- What one owns whole: its place, its blocks. -/
structure Ob where
  f : Fz → Nat → Chunk → Prop
  mono : ∀ {D D' : Fz} {b : Nat} {c : Chunk}, f D b c → Le D D' → f D' b c
inductive AB where
  | c (l : List V)
  | w (E sz : Nat) (rows : List (List U))
  | o (I : Ob)
  | x
abbrev Mem := List AB

def vget : List V → Nat → V
  | [], _ => .z
  | v :: _, 0 => v
  | _ :: l, n + 1 => vget l n
def vset : List V → Nat → V → List V
  | [], _, _ => []
  | _ :: l, 0, v => v :: l
  | x :: l, n + 1, v => x :: vset l n v
def vput (t : List V) (d : Option Tmp) (v : V) : List V :=
  match d with
  | some i => vset t i v
  | none => t
def mg : Mem → Nat → AB
  | [], _ => .x
  | a :: _, 0 => a
  | _ :: l, n + 1 => mg l n
def ms : Mem → Nat → AB → Mem
  | [], _, _ => []
  | _ :: l, 0, v => v :: l
  | y :: l, n + 1, v => y :: ms l n v
def ug : List U → Nat → Option U
  | [], _ => none
  | v :: _, 0 => some v
  | _ :: l, n + 1 => ug l n
def ofV1 : Value → V
  | .int k n => .u (.i k n)
  | .bool c => .u (.b c)
  | .string s => .u (.s s)
  | .pointer none => .u (.p none)
  | .slice none 0 0 => .nl 0
  | .map none => .nm
  | .func (.func g) ⟨[]⟩ ⟨[]⟩ => .f g [] []
  | _ => .z
def ofV : Value → V
  | .agg cs => .a (cs.toList.map ofV1)
  | v => ofV1 v
def evS (t : List V) : Operand → V
  | .tmp i => vget t i
  | .const v => ofV v
  | .func f => .f f [] []
  | .global _ => .z
def conc1 : V → Option Value
  | .u (.i k n) => some (.int k n)
  | .u (.b c) => some (.bool c)
  | .u (.s s) => some (.string s)
  | _ => none
def concL : List V → Option (List Value)
  | [] => some []
  | v :: l => match conc1 v, concL l with
    | some x, some xs => some (x :: xs)
    | _, _ => none
def conc : V → Option Value
  | .a l => match concL l with
    | some xs => some (.agg xs.toArray)
    | none => none
  | v => conc1 v

/- ## Cells: a part of an array of numbers is one of them, of its width -/
def wd : V → Nat
  | .n _ w _ => w
  | _ => 1
def dropC : Nat → List V → Option (List V)
  | 0, l => some l
  | _ + 1, [] => none
  | o + 1, x :: l => cond (Nat.ble (wd x) (o + 1) && !Nat.beq (wd x) 0) (dropC (o + 1 - wd x) l) none
termination_by structural _ l => l
def prefC : Nat → List V → Option (List V)
  | 0, _ => some []
  | _ + 1, [] => none
  | n + 1, x :: l => cond (Nat.ble (wd x) (n + 1) && !Nat.beq (wd x) 0) (match prefC (n + 1 - wd x) l with | some r => some (x :: r) | none => none) none
termination_by structural _ l => l
def wds : List V → Nat
  | [] => 0
  | x :: l => wd x + wds l
/-- 'new' in the place of what stands from o on. -/
def putC (new : List V) : Nat → List V → Option (List V)
  | 0, l => match dropC (wds new) l with | some r => some (new ++ r) | none => none
  | _ + 1, [] => none
  | o + 1, x :: l => cond (Nat.ble (wd x) (o + 1) && !Nat.beq (wd x) 0) (match putC new (o + 1 - wd x) l with | some r => some (x :: r) | none => none) none
termination_by structural _ l => l
def intsOf : Nat → List V → Option (List Int × List V)
  | 0, l => some ([], l)
  | n + 1, .u (.i .i64 x) :: l => match intsOf n l with | some (xs, r) => some (x :: xs, r) | none => none
  | _ + 1, _ => none
/-- Widths of the cells of a type. -/
def wl (P : Program) : Nat → TypeId → List Nat
  | 0, _ => [1]
  | d + 1, T => match P.underlying T with
    | some (.struct fs) => fs.toList.flatMap fun f => wl P d f.type
    | some (.array n e) => match P.underlying e with
      | some (.int .i64) => cond (Nat.ble 9 n) [n] (List.replicate n 1)
      | _ => (List.replicate n (wl P d e)).flatten
    | _ => [1]
def group : List Nat → List V → List V
  | [], l => l
  | _ :: _, [] => []
  | w :: ws, x :: l => cond (Nat.beq w 1) (x :: group ws l) (match x with
    | .n k w' xs => .n k w' xs :: group ws l
    | x => match intsOf w (x :: l) with
      | some (xs, r) => .n .i64 w xs :: group ws r
      | none => x :: l)
/-- For each cell of a type: how many cells an element of the slice that stands there has. -/
def leafs (P : Program) : Nat → TypeId → List Nat
  | 0, _ => [0]
  | d + 1, T => match P.underlying T with
    | some (.struct fs) => fs.toList.flatMap fun f => leafs P d f.type
    | some (.array n e) => (List.replicate n (leafs P d e)).flatten
    | some (.slice e) => [lay1 P e]
    | _ => [0]
def fixN : List Nat → List V → List V
  | s :: ss, .nl _ :: l => .nl s :: fixN ss l
  | ss, .n k w x :: l => .n k w x :: fixN (ss.drop w) l
  | _ :: ss, x :: l => x :: fixN ss l
  | [], l => l
  | _, [] => []
termination_by structural _ l => l
def normC (P : Program) (T : TypeId) (l : List V) : List V := group (wl P 9 T) (fixN (leafs P 9 T) l)
def normV (P : Program) (T : TypeId) : V → V
  | .a l => .a (normC P T l)
  | .nl s' => match leafs P 9 T with
    | s :: _ => .nl s
    | [] => .nl s'
  | v => v
/-- A nil slice as data. -/
def asD : V → V
  | .nl s => .u (.l s [])
  | v => v
def datL : List V → List V
  | [] => []
  | v :: l => asD v :: datL l
def datV : V → V
  | .a l => .a (datL l)
  | v => asD v
def datA : AB → AB
  | .c l => .c (datL l)
  | a => a
/-- Is it of the zero value's kind? -/
def shOk : Value × Nat → V → Bool
  | (.int k _, _), .u (.i k' _) => Nat.beq (kindNo k) (kindNo k')
  | (.bool _, _), .u (.b _) => true
  | (.string _, _), .u (.s _) => true
  | (.slice .., s), .u (.l s' _) => Nat.beq s s'
  | (.slice .., _), .w _ => true
  | (.slice .., s), .c s' _ => Nat.beq s s'
  | (.slice .., s), .nl s' => Nat.beq s s'
  | (.pointer _, _), .u (.p _) => true
  | (.pointer _, _), .r .. => true
  | (.pointer _, _), .e .. => true
  | (.pointer _, _), .g .. => true
  | (.pointer _, _), .q .. => true
  | (.map _, _), .m _ => true
  | (.map _, _), .nm => true
  | (.nilFunc, _), .f .. => true
  | _, _ => false
def isI64 : Value × Nat → Bool
  | (.int .i64 _, _) => true
  | _ => false
def shL : List (Value × Nat) → List V → Bool
  | [], [] => true
  | zs, .n k w _ :: l => Nat.beq (kindNo k) 3 && Nat.ble w zs.length && (zs.take w).all isI64 && shL (zs.drop w) l
  | z :: zs, v :: l => shOk z v && shL zs l
  | _, _ => false
termination_by structural _ l => l
inductive LayS where
  | one (z : Value × Nat)
  | many (zs : List (Value × Nat))
def layS (P : Program) (T : TypeId) : Option LayS :=
  match layOf P T, leafs P 9 T with
  | some (.one z), s :: _ => some (.one (z, s))
  | some (.many zs), ss => cond (Nat.beq zs.length ss.length) (some (.many (zs.zip ss))) none
  | _, _ => none

/- ## Stuck eliminators -/
def elL {α : Type} (l : List α) (k : Int) (K : α → Prop) : Prop :=
  match k with
  | .ofNat i => match l[i]? with | some r => K r | none => False
  | .negSucc _ => False
def oP {α : Type} (o : Option α) (K : α → Prop) : Prop :=
  match o with
  | some c => K c
  | none => False
def dI (k : IntKind) (o : Option U) (K : Int → Prop) : Prop :=
  match o with
  | some (.i k' n) => kindEq k k' (K n)
  | _ => False
def dB (o : Option U) (K : Bool → Prop) : Prop :=
  match o with
  | some (.b c) => K c
  | _ => False
def dS (o : Option U) (K : ByteArray → Prop) : Prop :=
  match o with
  | some (.s c) => K c
  | _ => False
def dL (s : Nat) (o : Option U) (K : List (List U) → Prop) : Prop :=
  match o with
  | some (.l s' c) => cond (Nat.beq s s') (K c) False
  | _ => False
def dP (o : Option U) (K : Option (List U) → Prop) : Prop :=
  match o with
  | some (.p c) => K c
  | _ => False
def dU (z : Value × Nat) (o : Option U) (K : U → Prop) : Prop :=
  match z.1 with
  | .int k _ => dI k o fun n => K (.i k n)
  | .bool _ => dB o fun c => K (.b c)
  | .string _ => dS o fun c => K (.s c)
  | .slice .. => dL z.2 o fun c => K (.l z.2 c)
  | .pointer _ => dP o fun c => K (.p c)
  | _ => False
def dUs : List (Value × Nat) → List U → Nat → (List U → Prop) → Prop
  | [], _, _, K => K []
  | z :: zs, r, o, K => dU z (ug r o) fun u => dUs zs r (o + 1) fun us => K (u :: us)
/-- What may be laid behind rows. -/
def apOk (a b : List (List U)) : Prop := a.length + b.length ≤ 1000000

/- ## Operations that leave the memory alone -/
def absV : Value → V
  | .int k n => .u (.i k n)
  | .bool c => .u (.b c)
  | .string s => .u (.s s)
  | _ => .z
def ptrAdd (x : V) (n : Nat) (K : V → Prop) : Prop :=
  match x with
  | .r b o => K (.r b (addO o n))
  | .e b sz k o => K (.e b sz k (addO o n))
  | .q c o => K (.q c (addO o n))
  | .u (.p p) => oP p fun c => K (.q c n)
  | _ => False
def isPtr : V → Bool
  | .r .. => true
  | .e .. => true
  | .g .. => true
  | .q .. => true
  | _ => false
def binS (P : Program) (op : BinOp) (T : TypeId) (x y : V) (K : V → Prop) : Prop :=
  match conc x, conc y with
  | some a, some b => binK P op T a b fun v => K (absV v)
  | _, _ => match y with
    | .u (.p none) => match P.underlying T with
      | some (.pointer _) => (match x with
        | .u (.p p) => nilEq op p.isNone fun v => K (absV v)
        | x => cond (isPtr x) (nilEq op false fun v => K (absV v)) False)
      | _ => False
    | .nm => match P.underlying T with
      | some (.map ..) => (match x with
        | .m _ => nilEq op false fun v => K (absV v)
        | .nm => nilEq op true fun v => K (absV v)
        | _ => False)
      | _ => False
    | _ => False
def pickS (c a b : V) (K : V → Prop) : Prop :=
  match c with
  | .u (.b c) => match a, b with
    | .u (.b x), .u (.b y) => K (.u (.b (cond c x y)))
    | _, _ => cond c (K a) (K b)
  | _ => False
def lenS (m : Mem) : V → (Int → Prop) → Prop
  | .u (.s x), K => K x.size
  | .u (.l _ r), K => K r.length
  | .c _ r, K => K r.length
  | .nl _, K => K 0
  | .w b, K => match mg m b with
    | .w _ _ r => K r.length
    | _ => False
  | _, _ => False
def okLen : Option TypeDesc → V → Bool
  | some .string, .u (.s _) => true
  | some (.slice _), .u (.l _ _) => true
  | some (.slice _), .c _ _ => true
  | some (.slice _), .nl _ => true
  | some (.slice _), .w _ => true
  | _, _ => false
def bndS (t : List V) (x : Option Operand) (d : Int) : Option Int :=
  match x with
  | none => some d
  | some x => match evS t x with
    | .u (.i _ i) => some i
    | _ => none
def cellU : List V → Option (List U)
  | [] => some []
  | .u x :: l => match cellU l with | some us => some (x :: us) | none => none
  | .nl s :: l => match cellU l with | some us => some (.l s [] :: us) | none => none
  | _ :: _ => none
def chunk : Nat → Nat → List U → List (List U)
  | 0, _, _ => []
  | n + 1, sz, l => l.take sz :: chunk n sz (l.drop sz)
def oneA (P : Program) (e : TypeId) (us : List V) : V :=
  match layS P e, us with
  | some (.one _), v :: _ => v
  | _, us => .a us
def argsI (t : List V) : List Operand → Option (List Value)
  | [] => some []
  | x :: l => match conc1 (evS t x), argsI t l with
    | some v, some vs => some (v :: vs)
    | _, _ => none
def cellsV : V → Option (List V)
  | .a l => some l
  | .z => none
  | .n .. => none
  | .t _ => none
  | v => some [v]
/-- The cells of a value of a type. -/
def vcells (P : Program) (T : TypeId) (v : V) : Option (List V) := cellsV (normV P T v)
def fillC (place : Nat → Option (Nat × Nat)) : List V → List (Nat × V) → Option (List V)
  | l, [] => some l
  | l, (i, v) :: rest => match place i, cellsV v with
    | some (o, s), some xs => cond (Nat.beq (wds xs) s) (match putC xs o l with | some l' => fillC place l' rest | none => none) none
    | _, _ => none
def zerosOf (P : Program) (T : TypeId) : Option (List (Value × Nat)) :=
  match layS P T with
  | some (.one z) => some [z]
  | some (.many zs) => some zs
  | none => none
def load1 (z : Value × Nat) (a : V) (m : Mem) (K : V → Prop) : Prop :=
  match a with
  | .r b o => match mg m b with
    | .c cells => match dropC o cells with
      | some (v :: _) => cond (shOk z v) (K v) False
      | _ => False
    | _ => False
  | .g b o w k => match mg m b with
    | .c cells => match dropC o cells with
      | some (.n k' w' l :: _) => cond (Nat.beq w w' && Nat.beq (kindNo k') 3 && isI64 z) (elL l k fun n => K (.u (.i .i64 n))) False
      | _ => False
    | _ => False
  | .e b sz k o => match mg m b with
    | .w _ sz' rows => cond (Nat.beq sz sz') (elL rows k fun r => dU z (ug r o) fun u => K (.u u)) False
    | _ => False
  | .q c o => dU z (ug c o) fun u => K (.u u)
  | .u (.p p) => oP p fun c => dU z (ug c 0) fun u => K (.u u)
  | _ => False
def loadN (zs : List (Value × Nat)) (a : V) (m : Mem) (K : V → Prop) : Prop :=
  match a with
  | .r b o => match mg m b with
    | .c cells => match dropC o cells with
      | some l => match prefC zs.length l with
        | some vs => cond (shL zs vs) (K (.a vs)) False
        | none => False
      | none => False
    | _ => False
  | .e b sz k o => match mg m b with
    | .w _ sz' rows => cond (Nat.beq sz sz') (elL rows k fun r => dUs zs r o fun us => K (.a (us.map .u))) False
    | _ => False
  | .q c o => dUs zs c o fun us => K (.a (us.map .u))
  | .u (.p p) => oP p fun c => dUs zs c 0 fun us => K (.a (us.map .u))
  | _ => False
def sLoad (P : Program) (T : TypeId) (a : V) (m : Mem) (K : V → Prop) : Prop :=
  match layS P T with
  | some (.one z) => load1 z a m K
  | some (.many zs) => loadN zs a m K
  | none => False
/-- The element of that number, of n. -/
def idxK (i : Int) (n : Nat) (K : Nat → Prop) : Prop :=
  match i with
  | .ofNat j => cond (Nat.ble (j + 1) n) (K j) False
  | .negSucc _ => False
def quietS (P : Program) (t : List V) (m : Mem) (o : Oper) (K : V → Prop) : Prop :=
  match o.op with
  | .move x | .assign x => K (evS t x)
  | .pick c a b => pickS (evS t c) (evS t a) (evS t b) K
  | .nilCheck x => match evS t x with
    | .u (.p p) => oP p fun c => K (.q c 0)
    | .f g a c => K (.f g a c)
    | x => cond (isPtr x) (K x) False
  | .binOp op T x y _ => binS P op T (evS t x) (evS t y) K
  | .unOp op _ x => match conc1 (evS t x) with
    | some a => XWp P (Op.unary op a) fun v => K (absV v)
    | none => False
  | .convert s d x => match conc1 (evS t x) with
    | some a => XWp P (convert s d a) fun v => K (absV v)
    | none => False
  | .makeFunc (.func g) a c => K (.f g (a.toList.map (evS t)) (c.toList.map (evS t)))
  | .fieldAddr T x f => match P.underlying T with
    | some (.struct fs) => match fs[f]? with
      | some fd => nz (lay1 P fd.type) (ptrAdd (evS t x) fd.offset K)
      | none => False
    | _ => False
  | .field T x f => match P.underlying T, evS t x with
    | some (.struct fs), .a l => match fs[f]? with
      | some fd => match layS P fd.type, dropC fd.offset l with
        | some (.one z), some (v :: _) => cond (shOk z v) (K v) False
        | some (.many zs), some l => match prefC zs.length l with
          | some vs => K (.a vs)
          | none => False
        | _, _ => False
      | none => False
    | _, _ => False
  | .indexAddr T x i => match evS t i with
    | .u (.i _ i) => match P.underlying T, asD (evS t x) with
      | some (.slice e), .u (.l s rows) => cond (Nat.beq s (lay1 P e) && !Nat.beq s 0) (elL rows i fun r => K (.q r 0)) False
      | some (.slice e), .c s rows => cond (Nat.beq s (lay1 P e) && !Nat.beq s 0) (elL rows i fun r => K (.q r 0)) False
      | some (.slice e), .w b => match mg m b with
        | .w _ sz rows => cond (Nat.beq sz (lay1 P e) && !Nat.beq sz 0) (0 ≤ i ∧ i < rows.length ∧ K (.e b sz i 0)) False
        | _ => False
      | some (.array n e), .r b o => match mg m b with
        | .c cells => match dropC o cells with
          | some (.n _ w _ :: _) => cond (Nat.beq w n && Nat.beq (lay1 P e) 1) (0 ≤ i ∧ i < n ∧ K (.g b o w i)) False
          | some _ => match i with
            | .ofNat j => cond (Nat.ble (j + 1) n) (nz (lay1 P e) (K (.r b (o + j * lay1 P e)))) False
            | .negSucc _ => False
          | none => False
        | _ => False
      | some (.array n e), .q c o => nz (lay1 P e) (idxK i n fun j => K (.q c (o + j * lay1 P e)))
      | _, _ => False
    | _ => False
  | .index T x i => match evS t i with
    | .u (.i _ i) => match P.underlying T, evS t x with
      | some .string, .u (.s s) => 0 ≤ i ∧ i < s.size ∧ K (.u (.i .u8 (s.data.getD i.toNat 0).toNat))
      | some (.array n e), .a l => match zerosOf P e, cellU l with
        | some zs, some us => cond (Nat.beq us.length (n * zs.length)) (elL (chunk n zs.length us) i fun r => dUs zs r 0 fun vs => K (oneA P e (vs.map .u))) False
        | _, _ => False
      | _, _ => False
    | _ => False
  | .extract x i => match evS t x with
    | .t l => cond (Nat.ble (i + 1) l.length) (K (vget l i)) False
    | _ => False
  | .build T ps => match P.info? T, P.underlying T with
    | some inf, some (.struct fs) => match inf.zero with
      | some (.agg cs) => cond (allLaid P fs.toList) (match fillC (placeOf P fs.toList) (normC P T (cs.toList.map ofV1)) (ps.toList.map fun p => (p.1, evS t p.2)) with
        | some l => K (.a (normC P T l))
        | none => False) False
      | _ => False
    | some inf, some (.array _ e) => match inf.zero with
      | some (.agg cs) => nz (lay1 P e) (match fillC (fun i => some (i * lay1 P e, lay1 P e)) (normC P T (cs.toList.map ofV1)) (ps.toList.map fun p => (p.1, evS t p.2)) with
        | some l => K (.a (normC P T l))
        | none => False)
      | _ => False
    | _, _ => False
  | .slice T x lo hi mx => match P.underlying T, asD (evS t x) with
    | some .string, .u (.s s) => match mx, bndS t lo 0, bndS t hi s.size with
      | none, some l, some r => leK lo.isNone 0 l (l ≤ r ∧ r ≤ s.size ∧ K (.u (.s (s.extract l.toNat r.toNat))))
      | _, _, _ => False
    | some (.slice e), .u (.l s rows) => cond (Nat.beq s (lay1 P e) && !Nat.beq s 0) (match mx, bndS t lo 0, bndS t hi rows.length with
      | none, some l, some r => leK lo.isNone 0 l (l ≤ r ∧ r ≤ rows.length ∧ K (.u (.l s ((rows.take r.toNat).drop l.toNat))))
      | some mx, some l, some r => match evS t mx with
        | .u (.i _ k) => cond hi.isSome (leK lo.isNone 0 l (l ≤ r ∧ r ≤ rows.length ∧ k = r ∧ K (.c s ((rows.take r.toNat).drop l.toNat)))) False
        | _ => False
      | _, _, _ => False) False
    | _, _ => False
  | .load T a => sLoad P T (evS t a) m K
  | .call c => match c.callee with
    | .builtin .len => match c.args.toList, c.argTypes.toList with
      | [x], [T] => cond (okLen (P.underlying T) (evS t x)) (lenS m (evS t x) fun n => K (.u (.i .i64 n))) False
      | _, _ => False
    | .builtin .min => match argsI t c.args.toList with
      | some vs => XWp P (Builtin.min_ c.argTypes o.type vs.toArray) fun v => K (absV v)
      | none => False
    | .builtin .max => match argsI t c.args.toList with
      | some vs => XWp P (Builtin.max_ c.argTypes o.type vs.toArray) fun v => K (absV v)
      | none => False
    | _ => False
  | _ => False

/- ## Operations that turn the memory -/
def inL : List Nat → Nat → Bool
  | [], _ => false
  | x :: l, b => Nat.beq x b || inL l b
/-- As data; what is one's own is so no more. -/
def toU (ro : List Nat) (m : Mem) : V → Option (U × Mem)
  | .u x => some (x, m)
  | .c s rows => some (.l s rows, m)
  | .nl s => some (.l s [], m)
  | .q c 0 => some (.p (some c), m)
  | .w b => match mg m b with
    | .w _ sz rows => cond (inL ro b) none (some (.l sz rows, ms m b .x))
    | _ => none
  | _ => none
def toUs (ro : List Nat) : Mem → List V → Option (List U × Mem)
  | m, [] => some ([], m)
  | m, v :: l => match toU ro m v with
    | some (u, m1) => match toUs ro m1 l with
      | some (us, m2) => some (u :: us, m2)
      | none => none
    | none => none
def usp : List U → Nat → List U → List U
  | l, _, [] => l
  | [], _, _ => []
  | _ :: l, 0, v :: vs => v :: usp l 0 vs
  | x :: l, n + 1, v :: vs => x :: usp l n (v :: vs)
def aggOk (P : Program) (T : TypeId) (x : V) : Bool :=
  match layS P T, x with
  | some (.many _), .a _ => true
  | some (.one _), .a _ => false
  | some (.one _), _ => true
  | _, _ => false
def sStore (P : Program) (ro : List Nat) (T : TypeId) (a x : V) (m : Mem) (K : Mem → Prop) : Prop :=
  match zerosOf P T, vcells P T x with
  | some zs, some xs => cond (shL zs xs && aggOk P T (normV P T x)) (match a with
    | .r b o => cond (inL ro b) False (match mg m b with
      | .c cells => match putC xs o cells with
        | some l => K (ms m b (.c l))
        | none => False
      | _ => False)
    | .g b o w k => cond (inL ro b) False (match mg m b, xs with
      | .c cells, [.u (.i .i64 y)] => match dropC o cells with
        | some (.n k' w' l :: _) => cond (Nat.beq w w' && Nat.beq (kindNo k') 3) (match putC [.n .i64 w (l.set k.toNat y)] o cells with
          | some l => K (ms m b (.c l))
          | none => False) False
        | _ => False
      | _, _ => False)
    | .e b sz k o => cond (inL ro b) False (match toUs ro m xs with
      | some (us, m1) => match mg m1 b with
        | .w E sz' rows => cond (Nat.beq sz sz') (cond (Nat.beq o 0 && Nat.beq us.length sz) (K (ms m1 b (.w E sz (rows.set k.toNat us))))
            (cond (Nat.ble (o + us.length) sz) (elL rows k fun r => K (ms m1 b (.w E sz (rows.set k.toNat (usp r o us))))) False)) False
        | _ => False
      | none => False)
    | _ => False) False
  | _, _ => False
def srcS (m : Mem) : V → Option (Nat × List (List U))
  | .u (.l s r) => some (s, r)
  | .c s r => some (s, r)
  | .w b => match mg m b with
    | .w _ s r => some (s, r)
    | _ => none
  | _ => none
def appS (P : Program) (ro : List Nat) (T : TypeId) (x y : V) (m : Mem) (K : V → Mem → Prop) : Prop :=
  match P.underlying T with
  | some (.slice e) => cond (elTyB P T e (lay1 P e)) (match y with
    | .nl _ => (match x with
      | .nl _ => K (.u (.l (lay1 P e) [])) m
      | .u (.l s r) => K (.u (.l s r)) m
      | _ => False)
    | y => (match srcS m y with
      | some (s, new) => cond (Nat.beq s (lay1 P e)) (match x with
        | .nl _ => apOk [] new ∧ K (.w m.length) (m ++ [.w e s new])
        | .w b => cond (inL ro b) False (match mg m b with
          | .w e' s' rows => cond (Nat.beq e e' && Nat.beq s s') (apOk rows new ∧ K (.w m.length) (ms m b .x ++ [.w e s (rows ++ new)])) False
          | _ => False)
        | .c s' rows => cond (Nat.beq s s') (apOk rows new ∧ match new with
          | _ :: _ => K (.w m.length) (m ++ [.w e s (rows ++ new)])
          | [] => K (.u (.l s rows)) m) False
        | _ => False) False
      | none => False)) False
  | _ => False
def rowsOf (P : Program) (ro : List Nat) (e : TypeId) : List (List U) → Mem → List (Nat × V) → Option (List (List U) × Mem)
  | l, m, [] => some (l, m)
  | l, m, (i, v) :: rest => match vcells P e v with
    | some xs => match toUs ro m xs with
      | some (us, m1) => cond (Nat.beq us.length (lay1 P e) && Nat.ble (i + 1) l.length) (rowsOf P ro e (l.set i us) m1 rest) none
      | none => none
    | none => none
def zrow (P : Program) (e : TypeId) : Option (List U) :=
  match (P.info? e).bind (·.zero) with
  | some z => cellU (fixN (leafs P 9 e) (z.cells.toList.map ofV1))
  | none => none
def plainCall : Oper → Option (Operand × List Operand)
  | { op := .call { callee := .value f, args := as', .. }, .. } => some (f, as'.toList)
  | _ => none
abbrev CallH := FuncId → List V → Mem → (V → Mem → Prop) → Prop
def effS (P : Program) (ro : List Nat) (call : CallH) (t : List V) (m : Mem) (o : Oper) (K : V → Mem → Prop) : Prop :=
  match o.op with
  | .store T a x => sStore P ro T (evS t a) (evS t x) m fun m' => K .z m'
  | .box T x => match vcells P T (evS t x) with
    | some xs => K (.r m.length 0) (m ++ [.c xs])
    | none => False
  | .alloc T => match (P.info? T).bind (·.zero) with
    | some z => K (.r m.length 0) (m ++ [.c (match ofV z with | .a l => normC P T l | x => [normV P T x])])
    | none => False
  | .buildSlice T n ps => match P.underlying T with
    | some (.slice e) => match zrow P e with
      | some zr => cond (Nat.ble (n * lay1 P e) 16777216 && !Nat.beq (n * lay1 P e) 0 && Nat.beq zr.length (lay1 P e)) (match rowsOf P ro e (List.replicate n zr) m (ps.toList.map fun p => (p.1, evS t p.2)) with
        | some (rows, m1) => K (.w m1.length) (m1 ++ [.w e (lay1 P e) rows])
        | none => False) False
      | none => False
    | _ => False
  | .makeSlice T l c => match P.underlying T, evS t l, evS t c with
    | some (.slice e), .u (.i .i64 l), .u (.i .i64 c) => match zrow P e with
      | some zr => cond (elTyB P T e (lay1 P e) && Nat.beq zr.length (lay1 P e)) (0 ≤ l ∧ l ≤ 1000000 ∧ c = l ∧ K (.w m.length) (m ++ [.w e (lay1 P e) (List.replicate l.toNat zr)])) False
      | none => False
    | _, _, _ => False
  | .call c => match c.callee with
    | .value f => match evS t f with
      | .f g a cc => call g (a ++ c.args.toList.map (evS t) ++ cc) m K
      | _ => False
    | .builtin .append => match c.args.toList, c.argTypes.toList with
      | [x, y], [T, T'] => cond (Nat.beq T T') (appS P ro T (evS t x) (evS t y) m K) False
      | _, _ => False
    | _ => False
  | _ => False
def numRow (x : Int) : List U := [.i .i64 x]
/-- A part of what is one's own. -/
def cutS (P : Program) (ro : List Nat) (t : List V) (m : Mem) (o : Oper) (K : V → Mem → Prop) : Option Prop :=
  match o.op with
  | .slice T x lo hi none => match evS t x with
    | .w b => match P.underlying T, mg m b with
      | some (.slice e), .w E sz rows => match bndS t lo 0, bndS t hi rows.length with
        | some l, some r => some (cond (inL ro b || !(Nat.beq sz (lay1 P e) && !Nat.beq sz 0)) False (match lo with
          | none => 0 ≤ r ∧ r ≤ rows.length ∧ K (.w m.length) (ms m b .x ++ [.w E sz (rows.take r.toNat)])
          | some _ => 0 ≤ l ∧ l ≤ r ∧ r ≤ rows.length ∧ K (.u (.l sz ((rows.take r.toNat).drop l.toNat))) (ms m b .x)))
        | _, _ => some False
      | _, _ => some False
    | .r b 0 => match lo, hi, mg m b with
      | none, none, .c [.n k w xs] => match P.underlying T with
        | some (.array n e) => some (cond (!inL ro b && Nat.beq n w && Nat.beq (lay1 P e) 1 && Nat.beq (kindNo k) 3) (K (.u (.l 1 (xs.map numRow))) (ms m b .x)) False)
        | some (.pointer A) => match P.underlying A with
          | some (.array n e) => some (cond (!inL ro b && Nat.beq n w && Nat.beq (lay1 P e) 1 && Nat.beq (kindNo k) 3) (K (.u (.l 1 (xs.map numRow))) (ms m b .x)) False)
          | _ => some False
        | _ => some False
      | _, _, _ => some False
    | _ => none
  | _ => none
def quietB (o : Oper) : Bool := pureOp o || readOp o
def opS (P : Program) (ro : List Nat) (call : CallH) (t : List V) (m : Mem) (o : Oper) (K : V → Mem → Prop) : Prop :=
  match cutS P ro t m o K with
  | some p => p
  | none => cond (quietB o) (quietS P t m o fun v => K v m) (effS P ro call t m o K)

/- ## Regions -/
def guardS (ops : List Oper) (o : Oper) (t : List V) (A B : List V → Prop) : Prop :=
  match guardSlot ops o with
  | none => A t
  | some (none, _) => B t
  | some (some d, want) =>
    match vget t d with
    | .u (.b c) => cond c (cond want (A (vset t d (.u (.b true)))) (B (vset t d (.u (.b true))))) (cond want (B (vset t d (.u (.b false)))) (A (vset t d (.u (.b false)))))
    | .t [] => B t
    | _ => False
def opsS (P : Program) (ro : List Nat) (call : CallH) (ops : List Oper) (K : List V → Mem → Prop) : List Oper → List V → Mem → Prop
  | [], t, m => K t m
  | o :: rest, t, m => guardS ops o t (fun t => opS P ro call t m o fun v m' => opsS P ro call ops K rest (vput t o.dst v) m') (fun t => opsS P ro call ops K rest (vput t o.dst (.t [])) m)
mutual
def refsV : V → List Nat
  | .r b _ => [b]
  | .e b _ _ _ => [b]
  | .g b _ _ _ => [b]
  | .w b => [b]
  | .m b => [b]
  | .y b => [b]
  | .f _ a c => refsL a ++ refsL c
  | .a l => refsL l
  | .t l => refsL l
  | _ => []
def refsL : List V → List Nat
  | [] => []
  | v :: l => refsV v ++ refsL l
end
def refsA : AB → List Nat
  | .c l => refsL l
  | _ => []
def clo (m : Mem) : Nat → List Nat → List Nat → List Nat
  | 0, _, acc => acc
  | _ + 1, [], acc => acc
  | n + 1, b :: todo, acc => cond (inL acc b) (clo m n todo acc) (clo m n (refsA (mg m b) ++ todo) (acc ++ [b]))
/-- Where what an operation reads lies. -/
def srcOf (t : List V) (o : Oper) : List Nat := refsL (o.op.operands.toList.map (evS t))
/-- What was read ahead of operation e, that does not wait for it, and must stay as it is. -/
def heldB (ops : List Oper) (e : Nat) : List (Nat × List Nat) → List Nat
  | [] => []
  | (i, bs) :: l => cond (waits ops ops.length i e) (heldB ops e l) (bs ++ heldB ops e l)
def drawS (P : Program) (ro hr : List Nat) (call : List Nat → CallH) (ops : List Oper) (K : List V → Mem → Prop) : Nat → List Nat → List (Nat × List Nat) → List V → Mem → Prop
  | 0, _, _, t, m => K t m
  | n + 1, done, held, t, m =>
    match nextQ ops done with
    | some i =>
      match ops[i]? with
      | none => False
      | some o => guardS ops o t
          (fun t => quietS P t m o fun v => drawS P ro hr call ops K n (i :: done) (cond (pureOp o) held ((i, srcOf t o) :: held)) (vput t o.dst v) m)
          (fun t => drawS P ro hr call ops K n (i :: done) held (vput t o.dst (.t [])) m)
    | none => conjL (readies ops done) fun i =>
      match ops[i]? with
      | none => False
      | some o => guardS ops o t
          (fun t => effS P (heldB ops i held ++ hr ++ ro) (call (heldB ops i held ++ hr)) t m o fun v m' => drawS P ro hr call ops K n (i :: done) held (vput t o.dst v) m')
          (fun t => drawS P ro hr call ops K n (i :: done) held (vput t o.dst (.t [])) m)

/-- A call of what a range over a function hands to it. -/
def yieldOf (t : List V) (o : Oper) : Option (Nat × List V) :=
  match o.op with
  | .call c => match c.callee with
    | .value f => match evS t f with
      | .y b => some (b, c.args.toList.map (evS t))
      | _ => none
    | _ => none
  | _ => none
def opsSY (P : Program) (ro : List Nat) (call : CallH) (yh : Nat → List V → Mem → (V → Mem → Prop) → Prop) (ops : List Oper) (K : List V → Mem → Prop) : List Oper → List V → Mem → Prop
  | [], t, m => K t m
  | o :: rest, t, m => guardS ops o t (fun t => match yieldOf t o with
      | some (b, args) => yh b args m fun v m' => opsSY P ro call yh ops K rest (vput t o.dst v) m'
      | none => opS P ro call t m o fun v m' => opsSY P ro call yh ops K rest (vput t o.dst v) m')
    (fun t => opsSY P ro call yh ops K rest (vput t o.dst (.t [])) m)

/- ## Patterns: what a loop, a joint or a call's end is spoken of in -/
inductive Pt where
  | i (k : IntKind) | b | s | l (s : Nat) | p | n (w : Nat) | ow (E sz : Nat) | w (j : Nat) | r (j o : Nat) | m (j : Nat) | nm | z | A | X | row (E sz : Nat)
inductive It where
  | v (y : V)
  | e (y : AB)
/-- A function of what a pattern names. -/
def Pt.Fn (X : Type) : Pt → Type
  | .i _ => Int → X
  | .b => Bool → X
  | .s => ByteArray → X
  | .l _ => List (List U) → X
  | .p => Option (List U) → X
  | .n _ => List Int → X
  | .ow _ _ => List (List U) → X
  | .row _ _ => List (List U) → X
  | .A => Ob → X
  | _ => X
def Pt.lam {X : Type} : (y : Pt) → (It → X) → y.Fn X
  | .i k, K => fun n => K (.v (.u (.i k n)))
  | .b, K => fun n => K (.v (.u (.b n)))
  | .s, K => fun n => K (.v (.u (.s n)))
  | .l sz, K => fun n => K (.v (.u (.l sz n)))
  | .p, K => fun n => K (.v (.u (.p n)))
  | .n nw, K => fun n => K (.v (.n .i64 nw n))
  | .ow E sz, K => fun n => K (.e (.w E sz n))
  | .row E sz, K => fun n => K (.e (.w E sz n))
  | .A, K => fun n => K (.e (.o n))
  | .w j, K => K (.v (.w j))
  | .r j o, K => K (.v (.r j o))
  | .m j, K => K (.v (.m j))
  | .nm, K => K (.v .nm)
  | .z, K => K (.v .z)
  | .X, K => K (.e .x)
def Pt.zip {X Y Z : Type} : (y : Pt) → y.Fn X → y.Fn Y → (X → Y → Z) → y.Fn Z
  | .i _, f, g, K => fun n => K (f n) (g n)
  | .b, f, g, K => fun n => K (f n) (g n)
  | .s, f, g, K => fun n => K (f n) (g n)
  | .l _, f, g, K => fun n => K (f n) (g n)
  | .p, f, g, K => fun n => K (f n) (g n)
  | .n _, f, g, K => fun n => K (f n) (g n)
  | .ow _ _, f, g, K => fun n => K (f n) (g n)
  | .row _ _, f, g, K => fun n => K (f n) (g n)
  | .A, f, g, K => fun n => K (f n) (g n)
  | .w _, f, g, K => K f g
  | .r _ _, f, g, K => K f g
  | .m _, f, g, K => K f g
  | .nm, f, g, K => K f g
  | .z, f, g, K => K f g
  | .X, f, g, K => K f g
def Pt.all {X : Type} : (y : Pt) → y.Fn X → (X → Prop) → Prop
  | .i _, f, K => ∀ n : Int, K (f n)
  | .b, f, K => ∀ n : Bool, K (f n)
  | .s, f, K => ∀ n : ByteArray, K (f n)
  | .l _, f, K => ∀ n : List (List U), K (f n)
  | .p, f, K => ∀ n : Option (List U), K (f n)
  | .n _, f, K => ∀ n : List Int, K (f n)
  | .ow _ _, f, K => ∀ n : List (List U), K (f n)
  | .row _ _, f, K => ∀ n : List (List U), K (f n)
  | .A, f, K => ∀ n : Ob, K (f n)
  | .w _, f, K => K f
  | .r _ _, f, K => K f
  | .m _, f, K => K f
  | .nm, f, K => K f
  | .z, f, K => K f
  | .X, f, K => K f
def PtT (R : Type) : List Pt → Type
  | [] => R
  | y :: l => y.Fn (PtT R l)
def Pt.app {X : Type} : (y : Pt) → y.Fn X → It → Option X
  | .i _, F, .v (.u (.i _ nn)) => some (F nn)
  | .b, F, .v (.u (.b nn)) => some (F nn)
  | .s, F, .v (.u (.s nn)) => some (F nn)
  | .l _, F, .v (.u (.l _ nn)) => some (F nn)
  | .p, F, .v (.u (.p nn)) => some (F nn)
  | .n _, F, .v (.n _ _ nn) => some (F nn)
  | .ow _ _, F, .e (.w _ _ nn) => some (F nn)
  | .row _ _, F, .e (.w _ _ nn) => some (F nn)
  | .A, F, .e (.o nn) => some (F nn)
  | .w _, F, _ => some F
  | .r _ _, F, _ => some F
  | .m _, F, _ => some F
  | .nm, F, _ => some F
  | .z, F, _ => some F
  | .X, F, _ => some F
  | _, _, _ => none
def apP {R : Type} (d : R) : (ps : List Pt) → PtT R ps → List It → R
  | [], F, _ => F
  | _ :: _, _, [] => d
  | y :: ps, F, i :: is => match y.app F i with
    | some G => apP d ps G is
    | none => d
/-- What stands there, by its patterns; what is taken is no more where it stood. -/
def pk1 (lim : Nat) (m : Mem) : Pt → V → Option (It × Mem)
  | .i k, .u (.i k' n) => cond (Nat.beq (kindNo k) (kindNo k')) (some (.v (.u (.i k n)), m)) none
  | .b, .u (.b c) => some (.v (.u (.b c)), m)
  | .s, .u (.s c) => some (.v (.u (.s c)), m)
  | .l sz, .u (.l sz' c) => cond (Nat.beq sz sz') (some (.v (.u (.l sz c)), m)) none
  | .l sz, .c sz' c => cond (Nat.beq sz sz') (some (.v (.u (.l sz c)), m)) none
  | .l sz, .nl _ => some (.v (.u (.l sz [])), m)
  | .p, .u (.p c) => some (.v (.u (.p c)), m)
  | .p, .q c 0 => some (.v (.u (.p (some c))), m)
  | .n nw, .n k w' c => cond (Nat.beq nw w' && Nat.beq (kindNo k) 3) (some (.v (.n .i64 nw c), m)) none
  | .ow E sz, .w j => match mg m j with
    | .w E' sz' rows => cond (Nat.beq E E' && Nat.beq sz sz') (some (.e (.w E sz rows), ms m j .x)) none
    | _ => none
  | .ow E sz, .nl _ => some (.e (.w E sz []), m)
  | .w j, .w j' => cond (Nat.beq j j' && Nat.ble (j + 1) lim) (some (.v (.w j), m)) none
  | .r j o, .r j' o' => cond (Nat.beq j j' && Nat.beq o o' && Nat.ble (j + 1) lim) (some (.v (.r j o), m)) none
  | .m j, .m j' => cond (Nat.beq j j' && Nat.ble (j + 1) lim) (some (.v (.m j), m)) none
  | .nm, .nm => some (.v .nm, m)
  | .z, .n .. => none
  | .z, _ => some (.v .z, m)
  | _, _ => none
def pkV (lim : Nat) (m : Mem) : List Pt → List V → Option (List It × Mem)
  | [], [] => some ([], m)
  | y :: ps, x :: xs => match pk1 lim m y x with
    | some (o, m1) => match pkV lim m1 ps xs with
      | some (os, m2) => some (o :: os, m2)
      | none => none
    | none => none
  | _, _ => none
/-- How a block is spoken of. -/
inductive BP where
  | A | X | row (E sz : Nat) | c (ps : List Pt)
def BP.ps : BP → List Pt
  | .A => [.A]
  | .X => [.X]
  | .row E sz => [.row E sz]
  | .c ps => ps
def pkB1 (lim : Nat) (m : Mem) : BP → Nat → Option (List It × Mem)
  | .A, j => match mg m j with
    | .o I => some ([.e (.o I)], ms m j .x)
    | _ => none
  | .X, j => some ([.e .x], ms m j .x)
  | .row E sz, j => match mg m j with
    | .w E' sz' rows => cond (Nat.beq E E' && Nat.beq sz sz') (some ([.e (.w E sz rows)], ms m j .x)) none
    | _ => none
  | .c ps, j => match mg m j with
    | .c l => pkV lim (ms m j .x) ps l
    | _ => none
def pkB (lim : Nat) (m : Mem) : List BP → List Nat → Option (List It × Mem)
  | [], [] => some ([], m)
  | y :: ps, j :: js => match pkB1 lim m y j with
    | some (o, m1) => match pkB lim m1 ps js with
      | some (os, m2) => some (o ++ os, m2)
      | none => none
    | none => none
  | _, _ => none
/-- How a result is spoken of. -/
inductive RP where
  | one (y : Pt) | agg (ps : List Pt)
def RP.ps : RP → List Pt
  | .one y => [y]
  | .agg ps => ps
def pkR (lim : Nat) (m : Mem) : List RP → List V → Option (List It × Mem)
  | [], [] => some ([], m)
  | .one y :: ps, x :: xs => match pkV lim m [y] [x] with
    | some (o, m1) => match pkR lim m1 ps xs with
      | some (os, m2) => some (o ++ os, m2)
      | none => none
    | none => none
  | .agg qs :: ps, .a l :: xs => match pkV lim m qs l with
    | some (o, m1) => match pkR lim m1 ps xs with
      | some (os, m2) => some (o ++ os, m2)
      | none => none
    | none => none
  | _, _ => none
/-- For whatever may stand there. -/
def mkP {R : Type} : (ps : List Pt) → (List It → R) → PtT R ps
  | [], K => K []
  | y :: ps, K => y.lam fun i => mkP ps fun is => K (i :: is)
/-- Two of them, put together. -/
def zipP {X Y Z : Type} (F : X → Y → Z) : (ps : List Pt) → PtT X ps → PtT Y ps → PtT Z ps
  | [], a, b => F a b
  | y :: ps, a, b => y.zip a b (zipP F ps)
def allP : (ps : List Pt) → PtT Prop ps → Prop
  | [], a => a
  | y :: ps, a => y.all a (allP ps)
mutual
def renV (f : Nat → Nat) : V → V
  | .r b o => .r (f b) o
  | .e b s k o => .e (f b) s k o
  | .g b o w k => .g (f b) o w k
  | .w b => .w (f b)
  | .m b => .m (f b)
  | .y b => .y (f b)
  | .f g a c => .f g (renL f a) (renL f c)
  | .a l => .a (renL f l)
  | .t l => .t (renL f l)
  | .u x => .u x
  | .q c o => .q c o
  | .c s r => .c s r
  | .nm => .nm
  | .nl s => .nl s
  | .n k w l => .n k w l
  | .z => .z
def renL (f : Nat → Nat) : List V → List V
  | [] => []
  | v :: l => renV f v :: renL f l
end
def renA (f : Nat → Nat) : AB → AB
  | .c l => .c (renL f l)
  | a => a
/-- The value that an item says; what is one's own is laid at the end. -/
def itV (f : Nat → Nat) (m : Mem) : It → V × Mem
  | .v x => (renV f x, m)
  | .e ab => (.w m.length, m ++ [ab])
def itVs (f : Nat → Nat) : Mem → Nat → List It → List V × List It × Mem
  | m, 0, is => ([], is, m)
  | m, _ + 1, [] => ([], [], m)
  | m, n + 1, i :: is => ((itV f m i).1 :: (itVs f (itV f m i).2 n is).1, (itVs f (itV f m i).2 n is).2.1, (itVs f (itV f m i).2 n is).2.2)
def reR (f : Nat → Nat) : Mem → List RP → List It → List V × List It × Mem
  | m, [], is => ([], is, m)
  | m, .one _ :: ps, is => ((itVs f m 1 is).1 ++ (reR f (itVs f m 1 is).2.2 ps (itVs f m 1 is).2.1).1, (reR f (itVs f m 1 is).2.2 ps (itVs f m 1 is).2.1).2)
  | m, .agg qs :: ps, is => (.a (itVs f m qs.length is).1 :: (reR f (itVs f m qs.length is).2.2 ps (itVs f m qs.length is).2.1).1, (reR f (itVs f m qs.length is).2.2 ps (itVs f m qs.length is).2.1).2)
/-- The blocks that the items say, in the places given. -/
def reB (f : Nat → Nat) : Mem → List BP → List Nat → List It → Mem
  | m, .c qs :: ps, b :: bs, is => reB f (ms (itVs f m qs.length is).2.2 b (.c (itVs f m qs.length is).1)) ps bs (itVs f m qs.length is).2.1
  | m, _ :: ps, b :: bs, .e ab :: is => reB f (ms m b ab) ps bs is
  | m, _, _, _ => m
structure Hint where
  sl : List (Nat × RP)
  bl : List (Nat × BP)
def Hint.ps (h : Hint) : List Pt := (h.sl.map (·.2)).flatMap RP.ps ++ (h.bl.map (·.2)).flatMap BP.ps
def Hint.pk (h : Hint) (lim : Nat) (t : List V) (m : Mem) : Option (List It × Mem) :=
  match pkR lim m (h.sl.map (·.2)) (h.sl.map fun p => vget t p.1) with
  | some (os, m1) => match pkB lim m1 (h.bl.map (·.2)) (h.bl.map (·.1)) with
    | some (os2, m2) => some (os ++ os2, m2)
    | none => none
  | none => none
def tkV : List Pt → List V → List Nat
  | .ow _ _ :: ps, .w j :: xs => j :: tkV ps xs
  | _ :: ps, _ :: xs => tkV ps xs
  | _, _ => []
def tkR : List RP → List V → List Nat
  | .one y :: ps, x :: xs => tkV [y] [x] ++ tkR ps xs
  | .agg qs :: ps, .a l :: xs => tkV qs l ++ tkR ps xs
  | _ :: ps, _ :: xs => tkR ps xs
  | _, _ => []
def tkB (m : Mem) : BP → Nat → List Nat
  | .c ps, j => match mg m j with
    | .c l => j :: tkV ps l
    | _ => [j]
  | _, j => [j]
/-- What a hint names, or takes. -/
def Hint.tk (h : Hint) (t : List V) (m : Mem) : List Nat := tkR (h.sl.map (·.2)) (h.sl.map fun p => vget t p.1) ++ h.bl.flatMap fun p => tkB m p.2 p.1
def killM : Mem → List Nat → Mem
  | m, [] => m
  | m, b :: bs => killM (ms m b .x) bs
/-- What is neither named nor taken. -/
def Hint.base (h : Hint) (t : List V) (m : Mem) : Mem := killM m (h.tk t m)
/-- What is alive in the one is so in the other. -/
def aliveB : Mem → Mem → Bool
  | [], _ => true
  | .x :: l, _ :: r => aliveB l r
  | _ :: _, .x :: _ => false
  | _ :: l, _ :: r => aliveB l r
  | _ :: _, [] => false
/-- What is said holds of what stands there. -/
def Hint.el (h : Hint) (m0 : Mem) (F : PtT Prop h.ps) (t : List V) (m : Mem) : Prop :=
  match h.pk m0.length t m with
  | some (os, m1) => cond (aliveB m0 m1) (apP False h.ps F os) False
  | none => False
def havoc (md : List Nat) : List V → Nat → List V
  | [], _ => []
  | v :: l, k => cond (md.contains k) .z v :: havoc md l (k + 1)
def setS : List V → List (Nat × RP) → List V → List V
  | t, p :: ps, v :: vs => setS (vset t p.1 v) ps vs
  | t, _, _ => t
/-- What may not be written behind a hint. -/
def roOf : Mem → Nat → List Nat
  | [], _ => []
  | .x :: l, k => roOf l (k + 1)
  | _ :: l, k => k :: roOf l (k + 1)
/-- The state at a loop's head, or behind a joint. -/
def Hint.st (h : Hint) (md : List Nat) (t : List V) (m : Mem) (is : List It) : List V × Mem :=
  (setS (havoc md t 0) h.sl (reR id (h.base t m) (h.sl.map (·.2)) is).1, reB id (reR id (h.base t m) (h.sl.map (·.2)) is).2.2 (h.bl.map (·.2)) (h.bl.map (·.1)) (reR id (h.base t m) (h.sl.map (·.2)) is).2.1)

end Go.Proofs.Ytljgfkiiikcaaaa

/- Verification conditions of functions, written by program (pvc.py) and held against the program by the kernel. -/
set_option linter.unusedVariables false
set_option maxRecDepth 100000
namespace Go.Proofs.Ytljgfkiiikcaaaa
open Go Go.Proofs
theorem mixV0 : Try.prog.follows .mixedOrders = true := by kernel_rfl
/- bottomry/goods.Count -/
def H21 : Hn := ⟨[], [], []⟩
def VC21 (lA : Option Addr) (lN : Nat) (lC : Nat) (kind : Int) (h : Heap) (R : Value → Heap → Prop) : Prop :=
  Run Try.prog 39 [.slice lA lN lC] h (fun v1 h1 => ∃ r1 : Option Nat, ∃ x1 : Int, v1 = .tuple #[.map r1, .int .i64 x1] ∧ (bif x1 != 0 then R (.int .i64 0) h1 else lookK Try.prog 89 (.map r1) (.int .i64 kind) false h1 (fun v2 => ∃ x2 : Int, v2 = .int .i64 x2 ∧ (R (.int .i64 x2) h1))))
theorem V21 (lA : Option Addr) (lN : Nat) (lC : Nat) (kind : Int) (h : Heap) (R : Value → Heap → Prop) (hh : VC21 lA lN lC kind h R) : Run Try.prog 21 [.slice lA lN lC, .int .i64 kind] h R :=
  fun_sound2 mixV0 Try.func21 (by kernel_rfl) (H := H21) (by kernel_rfl) hh

/- bottomry/goods.counts -/
def H39 : Hn := ⟨[(6, [(5, .b), (15, .i .i64)])], [], []⟩
def VC39 (lA : Option Addr) (lN : Nat) (lC : Nat) (h : Heap) (R : Value → Heap → Prop) : Prop :=
  Run Try.prog 57 [.slice lA lN lC, .func (.func 58) #[] #[]] h (fun v1 h1 => ∃ b1 : Bool, v1 = .bool b1 ∧ (bif b1 then R (.tuple #[.map none, .int .i64 1]) h1 else newB h1 (.map #[] 0) (fun m1 h2 => ∃ k1 : Bool → Int → Heap → Prop, ∃ z1 : Bool → Int → Heap → Nat, k1 false 0 h2 ∧ (∀ g1 : Nat → Value, ∀ h3 : Heap, ∀ b2 : Bool, ∀ x1 : Int, k1 b2 x1 h3 → (bif decide (x1 < (lN : Int)) then onPtr lA (fun m2 m3 => 0 ≤ x1 ∧ x1 < (lN : Int) ∧ (∃ x2 : Int, hcell h3 ⟨m2, m3 + Int.toNat x1 * 2, none⟩ = some (.int .i64 x2) ∧ (∃ x3 : Int, hcell h3 ⟨m2, m3 + Int.toNat x1 * 2 + 1, none⟩ = some (.int .i64 x3) ∧ (newB h3 (.cells #[.int .i64 0, .int .i64 0] 43) (fun m4 h4 => storeS m4 0 [.int .i64 x2, .int .i64 x3] 0 h4 (fun h5 => ∃ x4 : Int, hcell h5 ⟨m4, 0, none⟩ = some (.int .i64 x4) ∧ (lookK Try.prog 89 (.map (some m1)) (.int .i64 x4) false h5 (fun v2 => ∃ x5 : Int, v2 = .int .i64 x5 ∧ (∃ x6 : Int, hcell h5 ⟨m4, 1, none⟩ = some (.int .i64 x6) ∧ (Run Try.prog 51 [.int .i64 x5, .int .i64 x6] h5 (fun v3 h6 => ∃ x7 : Int, ∃ x8 : Int, v3 = .tuple #[.int .i64 x7, .int .i64 x8] ∧ (bif x8 != 0 then ∃ x9 : Int, hcell h6 ⟨m4, 0, none⟩ = some (.int .i64 x9) ∧ (updK Try.prog 89 (.map (some m1)) (.int .i64 x9) (.int .i64 1125899906842624) h6 (fun h7 => k1 true (IntKind.wrap .i64 (x1 + 1)) h7 ∧ z1 true (IntKind.wrap .i64 (x1 + 1)) h7 < z1 b2 x1 h3)) else (bif decide (x7 > 1125899906842624) then ∃ x10 : Int, hcell h6 ⟨m4, 0, none⟩ = some (.int .i64 x10) ∧ (updK Try.prog 89 (.map (some m1)) (.int .i64 x10) (.int .i64 1125899906842624) h6 (fun h8 => k1 true (IntKind.wrap .i64 (x1 + 1)) h8 ∧ z1 true (IntKind.wrap .i64 (x1 + 1)) h8 < z1 b2 x1 h3)) else ∃ x11 : Int, hcell h6 ⟨m4, 0, none⟩ = some (.int .i64 x11) ∧ (updK Try.prog 89 (.map (some m1)) (.int .i64 x11) (.int .i64 x7) h6 (fun h9 => k1 b2 (IntKind.wrap .i64 (x1 + 1)) h9 ∧ z1 b2 (IntKind.wrap .i64 (x1 + 1)) h9 < z1 b2 x1 h3))))))))))))))) else (bif b2 then R (.tuple #[.map none, .int .i64 5]) h3 else R (.tuple #[.map (some m1), .int .i64 0]) h3))))))
theorem V39 (lA : Option Addr) (lN : Nat) (lC : Nat) (h : Heap) (R : Value → Heap → Prop) (hh : VC39 lA lN lC h R) : Run Try.prog 39 [.slice lA lN lC] h R :=
  fun_sound2 mixV0 Try.func39 (by kernel_rfl) (H := H39) (by kernel_rfl) hh

/- bottomry/goods.counts$1 -/
def H58 : Hn := ⟨[], [], []⟩
def VC58 (s0 : Int) (s1 : Int) (h : Heap) (R : Value → Heap → Prop) : Prop :=
  newB h (.cells #[.int .i64 s0, .int .i64 s1] 43) (fun m1 h1 => ∃ x1 : Int, hcell h1 ⟨m1, 0, none⟩ = some (.int .i64 x1) ∧ (bif decide (x1 < 1) then R (.bool true) h1 else ∃ x2 : Int, hcell h1 ⟨m1, 1, none⟩ = some (.int .i64 x2) ∧ (R (.bool (decide (x2 < 0))) h1)))
theorem V58 (s0 : Int) (s1 : Int) (h : Heap) (R : Value → Heap → Prop) (hh : VC58 s0 s1 h R) : Run Try.prog 58 [.agg #[.int .i64 s0, .int .i64 s1]] h R :=
  fun_sound2 mixV0 Try.func58 (by kernel_rfl) (H := H58) (by kernel_rfl) hh

/- slices.IndexFunc[[]bottomry/api.Stack,bottomry/api.Stack] -/
def H83 : Hn := ⟨[(2, [(8, .i .i64)])], [], []⟩
def VC83 (sA : Option Addr) (sN : Nat) (sC : Nat) (f : Value) (h : Heap) (R : Value → Heap → Prop) : Prop :=
  ∃ k1 : Int → Heap → Prop, ∃ z1 : Int → Heap → Nat, k1 0 h ∧ (∀ g1 : Nat → Value, ∀ h1 : Heap, ∀ x1 : Int, k1 x1 h1 → (bif decide (x1 < (sN : Int)) then onPtr sA (fun m1 m2 => 0 ≤ x1 ∧ x1 < (sN : Int) ∧ (∃ x2 : Int, hcell h1 ⟨m1, m2 + Int.toNat x1 * 2, none⟩ = some (.int .i64 x2) ∧ (∃ x3 : Int, hcell h1 ⟨m1, m2 + Int.toNat x1 * 2 + 1, none⟩ = some (.int .i64 x3) ∧ (CallV Try.prog f [.agg #[.int .i64 x2, .int .i64 x3]] h1 (fun v1 h2 => ∃ b1 : Bool, v1 = .bool b1 ∧ (bif b1 then R (.int .i64 x1) h2 else k1 (IntKind.wrap .i64 (x1 + 1)) h2 ∧ z1 (IntKind.wrap .i64 (x1 + 1)) h2 < z1 x1 h1)))))) else R (.int .i64 (-1)) h1))
theorem V83 (sA : Option Addr) (sN : Nat) (sC : Nat) (f : Value) (h : Heap) (R : Value → Heap → Prop) (hh : VC83 sA sN sC f h R) : Run Try.prog 83 [.slice sA sN sC, f] h R :=
  fun_sound2 mixV0 Try.func83 (by kernel_rfl) (H := H83) (by kernel_rfl) hh

/- slices.ContainsFunc[[]bottomry/api.Stack,bottomry/api.Stack] -/
def H57 : Hn := ⟨[], [], []⟩
def VC57 (sA : Option Addr) (sN : Nat) (sC : Nat) (f : Value) (h : Heap) (R : Value → Heap → Prop) : Prop :=
  Run Try.prog 83 [.slice sA sN sC, f] h (fun v1 h1 => ∃ x1 : Int, v1 = .int .i64 x1 ∧ (R (.bool (decide (x1 ≥ 0))) h1))
theorem V57 (sA : Option Addr) (sN : Nat) (sC : Nat) (f : Value) (h : Heap) (R : Value → Heap → Prop) (hh : VC57 sA sN sC f h R) : Run Try.prog 57 [.slice sA sN sC, f] h R :=
  fun_sound2 mixV0 Try.func57 (by kernel_rfl) (H := H57) (by kernel_rfl) hh

/- bottomry/calc.Add -/
def H51 : Hn := ⟨[], [], []⟩
def VC51 (a : Int) (b : Int) (h : Heap) (R : Value → Heap → Prop) : Prop :=
  bif decide (a ≥ 0) == decide (b ≥ 0) then (bif !(decide (IntKind.wrap .i64 (a + b) ≥ 0) == decide (a ≥ 0)) then R (.tuple #[.int .i64 0, .int .i64 5]) h else R (.tuple #[.int .i64 (IntKind.wrap .i64 (a + b)), .int .i64 0]) h) else R (.tuple #[.int .i64 (IntKind.wrap .i64 (a + b)), .int .i64 0]) h
theorem V51 (a : Int) (b : Int) (h : Heap) (R : Value → Heap → Prop) (hh : VC51 a b h R) : Run Try.prog 51 [.int .i64 a, .int .i64 b] h R :=
  fun_sound2 mixV0 Try.func51 (by kernel_rfl) (H := H51) (by kernel_rfl) hh

/- bottomry/bottomryref08.Norm -/
def H26 : Hn := ⟨[(2, [(4, .i .i64)]), (8, [(5, .sl), (6, .i .i64)]), (10, [(7, .i .i64), (8, .i .i64)]), (18, [(9, .i .i64), (10, .i .i64)])], [], []⟩
def VC26 (lA : Option Addr) (lN : Nat) (lC : Nat) (h : Heap) (R : Value → Heap → Prop) : Prop :=
  ∃ k1 : Int → Heap → Prop, ∃ z1 : Int → Heap → Nat, k1 0 h ∧ (∀ g1 : Nat → Value, ∀ h1 : Heap, ∀ x1 : Int, k1 x1 h1 → (bif decide (x1 < (lN : Int)) then onPtr lA (fun m1 m2 => 0 ≤ x1 ∧ x1 < (lN : Int) ∧ (∃ x2 : Int, hcell h1 ⟨m1, m2 + Int.toNat x1 * 2, none⟩ = some (.int .i64 x2) ∧ (bif decide (x2 < 1) then R (.tuple #[.slice none 0 0, .int .i64 1]) h1 else onPtr lA (fun m3 m4 => 0 ≤ x1 ∧ x1 < (lN : Int) ∧ (∃ x3 : Int, hcell h1 ⟨m3, m4 + Int.toNat x1 * 2 + 1, none⟩ = some (.int .i64 x3) ∧ (bif decide (x3 < 0) then R (.tuple #[.slice none 0 0, .int .i64 1]) h1 else k1 (IntKind.wrap .i64 (x1 + 1)) h1 ∧ z1 (IntKind.wrap .i64 (x1 + 1)) h1 < z1 x1 h1)))))) else ∃ k2 : Option Addr → Nat → Nat → Int → Heap → Prop, ∃ z2 : Option Addr → Nat → Nat → Int → Heap → Nat, k2 none 0 0 0 h1 ∧ (∀ g2 : Nat → Value, ∀ h2 : Heap, ∀ p1 : Option Addr, ∀ m5 : Nat, ∀ m6 : Nat, ∀ x4 : Int, k2 p1 m5 m6 x4 h2 → ∃ k3 : Int → Int → Heap → Prop, ∃ z3 : Int → Int → Heap → Nat, k3 0 0 h2 ∧ (∀ g3 : Nat → Value, ∀ h3 : Heap, ∀ x5 : Int, ∀ x6 : Int, k3 x5 x6 h3 → (bif decide (x6 < (lN : Int)) then onPtr lA (fun m7 m8 => 0 ≤ x6 ∧ x6 < (lN : Int) ∧ (∃ x7 : Int, hcell h3 ⟨m7, m8 + Int.toNat x6 * 2, none⟩ = some (.int .i64 x7) ∧ (bif decide (x7 > x4) then (bif x5 == 0 then onPtr lA (fun m9 m10 => 0 ≤ x6 ∧ x6 < (lN : Int) ∧ (∃ x8 : Int, hcell h3 ⟨m9, m10 + Int.toNat x6 * 2, none⟩ = some (.int .i64 x8) ∧ (k3 x8 (IntKind.wrap .i64 (x6 + 1)) h3 ∧ z3 x8 (IntKind.wrap .i64 (x6 + 1)) h3 < z3 x5 x6 h3))) else onPtr lA (fun m11 m12 => 0 ≤ x6 ∧ x6 < (lN : Int) ∧ (∃ x9 : Int, hcell h3 ⟨m11, m12 + Int.toNat x6 * 2, none⟩ = some (.int .i64 x9) ∧ (bif decide (x9 < x5) then onPtr lA (fun m13 m14 => 0 ≤ x6 ∧ x6 < (lN : Int) ∧ (∃ x10 : Int, hcell h3 ⟨m13, m14 + Int.toNat x6 * 2, none⟩ = some (.int .i64 x10) ∧ (k3 x10 (IntKind.wrap .i64 (x6 + 1)) h3 ∧ z3 x10 (IntKind.wrap .i64 (x6 + 1)) h3 < z3 x5 x6 h3))) else k3 x5 (IntKind.wrap .i64 (x6 + 1)) h3 ∧ z3 x5 (IntKind.wrap .i64 (x6 + 1)) h3 < z3 x5 x6 h3)))) else k3 x5 (IntKind.wrap .i64 (x6 + 1)) h3 ∧ z3 x5 (IntKind.wrap .i64 (x6 + 1)) h3 < z3 x5 x6 h3))) else (bif x5 == 0 then R (.tuple #[.slice p1 m5 m6, .int .i64 0]) h3 else ∃ k4 : Int → Int → Heap → Prop, ∃ z4 : Int → Int → Heap → Nat, k4 0 0 h3 ∧ (∀ g4 : Nat → Value, ∀ h4 : Heap, ∀ x11 : Int, ∀ x12 : Int, k4 x11 x12 h4 → (bif decide (x12 < (lN : Int)) then onPtr lA (fun m15 m16 => 0 ≤ x12 ∧ x12 < (lN : Int) ∧ (∃ x13 : Int, hcell h4 ⟨m15, m16 + Int.toNat x12 * 2, none⟩ = some (.int .i64 x13) ∧ (bif x13 == x5 then onPtr lA (fun m17 m18 => 0 ≤ x12 ∧ x12 < (lN : Int) ∧ (∃ x14 : Int, hcell h4 ⟨m17, m18 + Int.toNat x12 * 2 + 1, none⟩ = some (.int .i64 x14) ∧ (bif decide (x14 > IntKind.wrap .i64 (1125899906842624 - x11)) then R (.tuple #[.slice none 0 0, .int .i64 5]) h4 else onPtr lA (fun m19 m20 => 0 ≤ x12 ∧ x12 < (lN : Int) ∧ (∃ x15 : Int, hcell h4 ⟨m19, m20 + Int.toNat x12 * 2 + 1, none⟩ = some (.int .i64 x15) ∧ (k4 (IntKind.wrap .i64 (x11 + x15)) (IntKind.wrap .i64 (x12 + 1)) h4 ∧ z4 (IntKind.wrap .i64 (x11 + x15)) (IntKind.wrap .i64 (x12 + 1)) h4 < z4 x11 x12 h4)))))) else k4 x11 (IntKind.wrap .i64 (x12 + 1)) h4 ∧ z4 x11 (IntKind.wrap .i64 (x12 + 1)) h4 < z4 x11 x12 h4))) else (bif decide (x11 > 0) then newB h4 (.cells #[.int .i64 x5, .int .i64 x11] 43) (fun m21 h5 => appK Try.prog #[30, 30] 30 (.slice p1 m5 m6) (.slice (some ⟨m21, 0, none⟩) 1 1) h5 (fun v1 h6 => ∃ p2 : Option Addr, ∃ m22 : Nat, ∃ m23 : Nat, v1 = .slice p2 m22 m23 ∧ (k2 p2 m22 m23 x5 h6 ∧ z2 p2 m22 m23 x5 h6 < z2 p1 m5 m6 x4 h2))) else k2 p1 m5 m6 x5 h4 ∧ z2 p1 m5 m6 x5 h4 < z2 p1 m5 m6 x4 h2)))))))))
theorem V26 (lA : Option Addr) (lN : Nat) (lC : Nat) (h : Heap) (R : Value → Heap → Prop) (hh : VC26 lA lN lC h R) : Run Try.prog 26 [.slice lA lN lC] h R :=
  fun_sound2 mixV0 Try.func26 (by kernel_rfl) (H := H26) (by kernel_rfl) hh

end Go.Proofs.Ytljgfkiiikcaaaa

/- What the reference of layer 8 computes: Norm. -/
set_option linter.unusedVariables false
namespace Go.Proofs.Ytljgfkiiikcaaaa
open Go
attribute [local irreducible] appK copyK delK updK lookK makeK rangeK nextM entryM mapEntryK entryStK lenMapK

def encS (x : Stk) : List Value := [.int .i64 x.1, .int .i64 x.2]
theorem encS_len (x : Stk) : (encS x).length = 2 := rfl
abbrev Sl (h : Heap) (a : Option Addr) (n c : Nat) (l : List Stk) : Prop := SlOf encS 2 h a n c l
theorem Sl.el {h : Heap} {a : Option Addr} {n c : Nat} {l : List Stk} (s : Sl h a n c l) {i : Nat} (hi : i < l.length) {K : Nat → Nat → Prop}
    (hK : ∀ b o, hcell h ⟨b, o + Int.toNat (i : Int) * 2, none⟩ = some (.int .i64 l[i].1) → hcell h ⟨b, o + Int.toNat (i : Int) * 2 + 1, none⟩ = some (.int .i64 l[i].2) → K b o) : onPtr a K :=
  SlOf.el s rfl hi fun b o hc => hK b o (hc 0 _ rfl) (hc 1 _ rfl)
theorem tyS : Try.prog.underlying 30 = some (.slice 43) := by kernel_rfl
theorem inS : ∃ i, Try.prog.info? 43 = some i ∧ i.size = 2 ∧ i.bytes = 16 ∧ i.zero = some (.agg #[.int .i64 0, .int .i64 0]) := by
  have h : (Try.prog.info? 43).map (fun i => (i.size, i.bytes, i.zero)) = some (2, 16, some (.agg #[.int .i64 0, .int .i64 0])) := by kernel_rfl
  cases hi : Try.prog.info? 43 with
  | none => rw [hi] at h; cases h
  | some i => rw [hi] at h; simp only [Option.map_some, Option.some.injEq, Prod.mk.injEq] at h; exact ⟨i, rfl, h⟩

def NormR (h : Heap) (l : List Stk) (v : Value) (h' : Heap) : Prop :=
  ∃ (a : Option Addr) (n c : Nat) (r : List Stk) (e : Int), v = .tuple #[.slice a n c, .int .i64 e] ∧ Sl h' a n c r ∧ Keep h h' ∧ NormP l e r

theorem app1 {B b : Nat} {h : Heap} {a : Option Addr} {n c : Nat} {r : List Stk} {x : Stk} {K : Value → Heap → Prop} (hown : OwnS B 43 2 h a n c (r.flatMap encS)) (hB : B ≤ h.size) (hn : n ≤ 1000000)
    (hx : h[b]? = some (.cells #[.int .i64 x.1, .int .i64 x.2] 43 (0, 0)))
    (hK : ∀ (a' : Option Addr) (c' : Nat) (h' : Heap), OwnS B 43 2 h' a' (n + 1) c' ((r ++ [x]).flatMap encS) → KB (ownB a) h h' → (∀ b o, a' = some ⟨b, o, none⟩ → b ∈ ownB a ∨ h.size ≤ b) → K (.slice a' (n + 1) c') h') :
    appK Try.prog #[30, 30] 30 (.slice a n c) (.slice (some ⟨b, 0, none⟩) 1 1) h K := by
  obtain ⟨i, hi, hsz, hby, hz⟩ := inS
  refine app_own (P := Try.prog) (T := 30) (E := 43) (b2 := b) (o2 := 0) (new := encS x) (m := 1) (K := K) tyS hi hz (by rw [hsz]; rfl) (by rw [hby]; decide) (by rw [hsz]; exact hown) hB (fun j v hv => ?_) (by rw [hsz]; rfl) (fun v hv => ?_) (by rw [hby]; omega) ?_
  · rw [hcell_of hx, Nat.zero_add]; simpa [encS] using hv
  · simp [encS] at hv; rcases hv with rfl | rfl <;> rfl
  · intro a' c' h' h1 h2 h3
    rw [hsz] at h1
    exact hK a' c' h' (by simpa using h1) h2 h3
theorem OwnS.ge {B : Nat} {e : TypeId} {sz : Nat} {h : Heap} {a : Option Addr} {n c : Nat} {cs : List Value} (s : OwnS B e sz h a n c cs) : ∀ b ∈ ownB a, B ≤ b := by
  rcases s with ⟨rfl, -⟩ | ⟨b, l, rfl, h1, -⟩
  · intro b hb; simp [ownB] at hb
  · intro b' hb; simp [ownB] at hb; omega

theorem refNorm_spec {h : Heap} {a : Option Addr} {n c : Nat} {l : List Stk} (s : Sl h a n c l) (hr : rng l) (hn : n ≤ 1000) : Run Try.prog 26 [.slice a n c] h (NormR h l) := by
  have hln : l.length = n := s.1
  refine V26 _ _ _ _ _ ?_
  unfold VC26
  refine ⟨fun x h1 => h1 = h ∧ ∃ i : Nat, x = i ∧ i ≤ n ∧ good (l.take i), fun x _ => n - x.toNat, ⟨rfl, 0, rfl, by omega, by intro s hs; simp at hs⟩, ?_⟩
  rintro - h1 x ⟨rfl, i, rfl, hi, hg⟩
  refine cIf (fun hx => ?_) (fun hx => ?_)
  · have hil : i < l.length := by omega
    refine s.el hil fun b o c0 c1 => ⟨by omega, by omega, _, c0, ?_⟩
    refine cIf (fun hb => ?_) (fun hb => ?_)
    · exact ⟨none, 0, 0, [], 1, rfl, .nil _ _ _ _ _, .refl _ _, (errN_bad fun hgl => by have := good_mem hgl hil; omega).symm, by simp, fun _ => rfl⟩
    refine s.el hil fun b o c0 c1 => ⟨by omega, by omega, _, c1, ?_⟩
    refine cIf (fun hb2 => ?_) (fun hb2 => ?_)
    · exact ⟨none, 0, 0, [], 1, rfl, .nil _ _ _ _ _, .refl _ _, (errN_bad fun hgl => by have := good_mem hgl hil; omega).symm, by simp, fun _ => rfl⟩
    rw [w64n (by omega)]
    refine ⟨⟨rfl, i + 1, rfl, by omega, ?_⟩, by simp only [Int.toNat_natCast]; omega⟩
    rw [take_snoc hil]
    exact good_append.2 ⟨hg, fun u hu => by simp at hu; subst hu; omega⟩
  have hin : i = l.length := by omega
  subst hin
  rw [List.take_length] at hg
  clear hx hi
  refine ⟨fun p m m' x h2 => ∃ r, Keep h1 h2 ∧ OwnS h1.size 43 2 h2 p m m' (r.flatMap encS) ∧ r.length = m ∧ RefN l r x, fun _ _ _ x _ => (l.filter (fun s => decide (x < s.1))).length, ⟨[], .refl _ _, .nil _ _ _ _, rfl, .start hg⟩, ?_⟩
  rintro - h2 p m m' x ⟨r, k2, own, hrm, inv⟩
  have hlen := inv.len
  refine ⟨fun y z h3 => h3 = h2 ∧ ∃ j : Nat, z = j ∧ j ≤ n ∧ LeastT (l.take j) x y, fun _ z _ => n - z.toNat, ⟨rfl, 0, rfl, by omega, .start x⟩, ?_⟩
  rintro - h3 y z ⟨rfl, j, rfl, hj, hy⟩
  have s2 := s.keep k2
  have hpos := inv.pos
  refine cIf (fun hx => ?_) (fun hx => ?_)
  · have hil : j < l.length := by omega
    refine Sl.el s2 hil fun b o c0 c1 => ⟨by omega, by omega, _, c0, ?_⟩
    have hnext : ∀ y', LeastT (l.take (j + 1)) x y' → (h3 = h3 ∧ ∃ j' : Nat, (((j + 1 : Nat) : Int)) = j' ∧ j' ≤ n ∧ LeastT (l.take j') x y') ∧ n - Int.toNat ((j + 1 : Nat) : Int) < n - Int.toNat (j : Int) :=
      fun y' hy' => ⟨⟨rfl, j + 1, rfl, by omega, hy'⟩, by simp only [Int.toNat_natCast]; omega⟩
    rw [take_snoc hil] at hnext
    rw [w64n (by omega)]
    refine cIf (fun hb => ?_) (fun hb => ?_)
    · refine cEq (fun h0 => ?_) (fun h0 => ?_)
      · subst h0
        refine Sl.el s2 hil fun b o c0 c1 => ⟨by omega, by omega, _, c0, ?_⟩
        exact hnext _ (hy.first hpos hb)
      · refine Sl.el s2 hil fun b o c0 c1 => ⟨by omega, by omega, _, c0, ?_⟩
        refine cIf (fun hb2 => ?_) (fun hb2 => ?_)
        · refine Sl.el s2 hil fun b o c0 c1 => ⟨by omega, by omega, _, c0, ?_⟩
          exact hnext _ (hy.less h0 hb hb2)
        · exact hnext _ (hy.more h0 (by omega))
    · exact hnext _ (hy.low (by omega))
  have hjn : j = l.length := by omega
  subst hjn
  rw [List.take_length] at hy
  refine cEq (fun h0 => ?_) (fun h0 => ?_)
  · subst h0
    obtain ⟨h1', h2'⟩ := inv.stop hy
    exact ⟨p, m, m', r, 0, rfl, own.slOf encS_len hrm, k2, (errN_ok hg h2').symm, fun _ => h1', fun h => absurd rfl h⟩
  clear hx hj
  refine ⟨fun t z h4 => h4 = h3 ∧ ∃ j : Nat, z = j ∧ j ≤ n ∧ t = tot (l.take j) y ∧ t ≤ MaxQ, fun _ z _ => n - z.toNat, ⟨rfl, 0, rfl, by omega, rfl, by decide⟩, ?_⟩
  rintro - h4 t z ⟨rfl, j, rfl, hj, rfl, ht⟩
  have ht0 := tot_nonneg (good_take hg j) y
  have hM : MaxQ = 1125899906842624 := rfl
  refine cIf (fun hx => ?_) (fun hx => ?_)
  · have hil : j < l.length := by omega
    have hgm := good_mem hg hil
    refine Sl.el s2 hil fun b o c0 c1 => ⟨by omega, by omega, _, c0, ?_⟩
    rw [w64n (by omega)]
    have hsn : tot (l.take (j + 1)) y = tot (l.take j) y + if l[j].1 = y then l[j].2 else 0 := by rw [take_snoc hil, tot_snoc]
    refine cEq (fun he => ?_) (fun he => ?_)
    · rw [if_pos he] at hsn
      refine Sl.el s2 hil fun b o c0 c1 => ⟨by omega, by omega, _, c1, ?_⟩
      rw [w64 (by omega) (by omega)]
      refine cIf (fun ho => ?_) (fun ho => ?_)
      · refine ⟨none, 0, 0, [], 5, rfl, .nil _ _ _ _ _, k2, (errN_over hg ⟨l[j], by simp, ?_⟩).symm, by simp, fun _ => rfl⟩
        have := tot_take_le hg (j + 1) y
        rw [he]; omega
      refine Sl.el s2 hil fun b o c0 c1 => ⟨by omega, by omega, _, c1, ?_⟩
      rw [w64 (by omega) (by omega)]
      exact ⟨⟨rfl, j + 1, rfl, by omega, hsn.symm, by omega⟩, by simp only [Int.toNat_natCast]; omega⟩
    · rw [if_neg he, Int.add_zero] at hsn
      exact ⟨⟨rfl, j + 1, rfl, by omega, hsn.symm, by omega⟩, by simp only [Int.toNat_natCast]; omega⟩
  have hjn : j = l.length := by omega
  subst hjn
  rw [List.take_length] at ht ht0 ⊢
  have hstep := inv.step hg h0 hy ht
  have hdec : (l.filter (fun s => decide (y < s.1))).length < (l.filter (fun s => decide (x < s.1))).length := by
    rcases hy with ⟨h, -⟩ | ⟨ha, hb, -⟩
    · exact absurd h h0
    · exact filter_lt ha hb
  refine cIf (fun hp => ?_) (fun hp => ?_)
  · rw [if_pos hp] at hstep
    refine newB_intro fun h5 hb5 k5 s5 => ?_
    refine app1 (x := (y, tot l y)) (r := r) (B := h1.size) (own.keep k5) (by have := k2.size; omega) (by omega) hb5 fun a' c' h6 own6 k6 hb6 => ?_
    refine ⟨_, _, _, rfl, ⟨_, ?_, own6, by simp [hrm], hstep⟩, hdec⟩
    have hge := own.ge
    exact ((KB.of_keep (k2.trans k5)).trans k6).keep hge
  · rw [if_neg hp] at hstep
    exact ⟨⟨r, k2, own, hrm, hstep⟩, hdec⟩
end Go.Proofs.Ytljgfkiiikcaaaa

/- What layer 8 computes: counts (a map of totals, or why not). -/
set_option linter.unusedVariables false
namespace Go.Proofs.Ytljgfkiiikcaaaa
open Go
attribute [local irreducible] appK copyK delK updK lookK makeK rangeK nextM entryM mapEntryK entryStK lenMapK

/- ## Maps of totals -/
def MV (c : List Stk) : KV := c.map fun p => (p.1, .int .i64 p.2)
def cSet (c : List Stk) (k n : Int) : List Stk :=
  match c with
  | [] => [(k, n)]
  | p :: c => if p.1 = k then (k, n) :: c else p :: cSet c k n
theorem MV_set (c : List Stk) (k n : Int) : kvSet (MV c) k (.int .i64 n) = MV (cSet c k n) := by
  induction c with
  | nil => rfl
  | cons p c ih =>
    show kvSet ((p.1, _) :: MV c) k _ = MV (if p.1 = k then _ else _)
    simp only [kvSet]
    split
    · rfl
    · rw [ih]; rfl
theorem MV_keys (c : List Stk) : (MV c).map (·.1) = c.map (·.1) := by simp [MV, Function.comp_def]
theorem MV_get {c : List Stk} (hn : (c.map (·.1)).Nodup) (k : Int) : (kvGet (MV c) k).getD (.int .i64 0) = .int .i64 (tot c k) := by
  induction c with
  | nil => rfl
  | cons p c ih =>
    rw [List.map_cons, List.nodup_cons] at hn
    show (kvGet ((p.1, _) :: MV c) k).getD _ = _
    simp only [kvGet, tot]
    by_cases h : p.1 = k
    · subst h
      rw [if_pos rfl, if_pos rfl, tot_none hn.1, Int.add_zero]; rfl
    · rw [if_neg h, if_neg h, ih hn.2, Int.zero_add]
theorem cSet_tot {c : List Stk} (hn : (c.map (·.1)).Nodup) (k n j : Int) : tot (cSet c k n) j = if j = k then n else tot c j := by
  induction c with
  | nil => simp only [cSet, tot]; split <;> split <;> omega
  | cons p c ih =>
    rw [List.map_cons, List.nodup_cons] at hn
    simp only [cSet]
    by_cases h : p.1 = k
    · rw [if_pos h]
      subst h
      simp only [tot]
      by_cases hj : j = p.1
      · subst hj; rw [if_pos rfl, if_pos rfl, tot_none hn.1]; omega
      · rw [if_neg hj, if_neg (Ne.symm hj), if_neg (Ne.symm hj)]
    · rw [if_neg h]
      simp only [tot]
      rw [ih hn.2]
      by_cases hj : j = k
      · subst hj; rw [if_pos rfl, if_pos rfl, if_neg h]; omega
      · rw [if_neg hj, if_neg hj]
theorem cSet_mem {c : List Stk} {k n : Int} {p : Stk} (h : p ∈ cSet c k n) : p = (k, n) ∨ p ∈ c := by
  induction c with
  | nil => left; simpa [cSet] using h
  | cons q c ih =>
    simp only [cSet] at h
    split at h
    · rcases List.mem_cons.1 h with h | h
      · exact .inl h
      · exact .inr (by simp [h])
    · rcases List.mem_cons.1 h with h | h
      · exact .inr (by simp [h])
      · rcases ih h with h | h
        · exact .inl h
        · exact .inr (by simp [h])
theorem tot_mem {c : List Stk} (hn : (c.map (·.1)).Nodup) {p : Stk} (hp : p ∈ c) : tot c p.1 = p.2 := by
  induction c with
  | nil => simp at hp
  | cons q c ih =>
    rw [List.map_cons, List.nodup_cons] at hn
    simp only [tot]
    rcases List.mem_cons.1 hp with rfl | hp
    · rw [if_pos rfl, tot_none hn.1, Int.add_zero]
    · rw [if_neg (fun e => hn.1 (by rw [e]; exact List.mem_map.2 ⟨p, hp, rfl⟩)), ih hn.2 hp, Int.zero_add]

theorem tyM : Try.prog.underlying 89 = some (.map 3 3) := by kernel_rfl
theorem tyI : Try.prog.underlying 3 = some (.int .i64) := by kernel_rfl
theorem inI : ∃ i, Try.prog.info? 3 = some i ∧ i.zero = some (.int .i64 0) := by
  have h : (Try.prog.info? 3).map (fun i => i.zero) = some (some (.int .i64 0)) := by kernel_rfl
  cases hi : Try.prog.info? 3 with
  | none => rw [hi] at h; cases h
  | some i => rw [hi] at h; simp only [Option.map_some, Option.some.injEq] at h; exact ⟨i, rfl, h⟩
theorem lookM {h : Heap} {r : Option Nat} {c : List Stk} (hm : MapO h r (MV c)) {k : Int} {K : Value → Prop} (hK : (c.map (·.1)).Nodup → K (.int .i64 (tot c k))) :
    lookK Try.prog 89 (.map r) (.int .i64 k) false h K := by
  obtain ⟨i, hi, hz⟩ := inI
  have hn : (c.map (·.1)).Nodup := by
    cases r with
    | none => have : c = [] := by simpa [MapO, MV] using hm
              subst this; exact .nil
    | some b => rw [← MV_keys]; exact MapI.nodup hm
  refine look_spec tyM tyI hi hz hm ?_
  rw [if_neg (by simp), MV_get hn]
  exact hK hn
theorem updM {h : Heap} {b : Nat} {c : List Stk} (hm : MapI h b (MV c)) {k n : Int} {K : Heap → Prop}
    (hK : ∀ h' : Heap, MapI h' b (MV (cSet c k n)) → KB [b] h h' → h'.size = h.size → K h') : updK Try.prog 89 (.map (some b)) (.int .i64 k) (.int .i64 n) h K :=
  upd_spec tyM tyI hm (by rw [MV_set]; exact hK)

/- ## The parts -/
theorem callV_fn {P : Program} {g : FuncId} {args : List Value} {h : Heap} {R : Value → Heap → Prop} (hr : Run P g args h R) : CallV P (.func (.func g) #[] #[]) args h R := by
  unfold CallV
  simpa using hr
theorem calcAdd_spec {a b : Int} {h : Heap} {R : Value → Heap → Prop} (ha : 0 ≤ a ∧ a ≤ MaxQ) (hb : 0 ≤ b ∧ b ≤ 9223372036854775807)
    (h1 : a + b ≤ 9223372036854775807 → R (.tuple #[.int .i64 (a + b), .int .i64 0]) h) (h2 : 9223372036854775807 < a + b → R (.tuple #[.int .i64 0, .int .i64 5]) h) : Run Try.prog 51 [.int .i64 a, .int .i64 b] h R := by
  have hM : MaxQ = 1125899906842624 := rfl
  refine V51 _ _ _ _ ?_
  unfold VC51
  rw [decide_eq_true ha.1, decide_eq_true hb.1]
  show cond (!(decide (IntKind.wrap .i64 (a + b) ≥ 0) == true)) _ _
  by_cases hs : a + b ≤ 9223372036854775807
  · rw [w64 (by omega) hs, decide_eq_true (show a + b ≥ 0 by omega)]
    exact h1 hs
  · have hw : IntKind.wrap .i64 (a + b) = a + b - 18446744073709551616 := by
      have hb : (2 ^ IntKind.i64.bits : Int) = 18446744073709551616 := by decide
      have hb1 : (2 ^ (IntKind.i64.bits - 1) : Int) = 9223372036854775808 := by decide
      simp only [IntKind.wrap, IntKind.signed, hb, hb1, Bool.true_and, decide_eq_true_eq, ge_iff_le]
      split <;> omega
    rw [hw, decide_eq_false (show ¬ a + b - 18446744073709551616 ≥ 0 by omega)]
    exact h2 (by omega)

theorem badStack_spec (s0 s1 : Int) (h : Heap) : Run Try.prog 58 [.agg #[.int .i64 s0, .int .i64 s1]] h fun v h' => Keep h h' ∧ v = .bool (decide (s0 < 1 ∨ s1 < 0)) := by
  refine V58 _ _ _ _ ?_
  unfold VC58
  refine newB_intro fun h1 hb k1 s1' => ?_
  refine ⟨_, by rw [hcell_of hb]; rfl, ?_⟩
  refine cIf (fun h2 => ⟨k1, by rw [decide_eq_true (.inl h2)]⟩) fun h2 => ⟨_, by rw [hcell_of hb]; rfl, k1, ?_⟩
  by_cases h3 : s1 < 0
  · rw [decide_eq_true h3, decide_eq_true (.inr h3)]
  · rw [decide_eq_false h3, decide_eq_false (by omega)]

theorem indexBad_spec {h : Heap} {a : Option Addr} {n c : Nat} {l : List Stk} (s : Sl h a n c l) (hn : n ≤ 1000) : Run Try.prog 83 [.slice a n c, .func (.func 58) #[] #[]] h fun v h' => ∃ x : Int, v = .int .i64 x ∧ Keep h h' ∧ (0 ≤ x ↔ ¬ good l) := by
  have hln : l.length = n := s.1
  refine V83 _ _ _ _ _ _ ?_
  unfold VC83
  refine ⟨fun x h1 => Keep h h1 ∧ ∃ i : Nat, x = i ∧ i ≤ n ∧ good (l.take i), fun x _ => n - x.toNat, ⟨.refl _ _, 0, rfl, by omega, by intro s hs; simp at hs⟩, ?_⟩
  rintro - h1 x ⟨k1, i, rfl, hi, hg⟩
  have s1 := s.keep k1
  refine cIf (fun hx => ?_) (fun hx => ?_)
  · have hil : i < l.length := by omega
    refine Sl.el s1 hil fun b o c0 c1 => ⟨by omega, by omega, _, c0, _, c1, ?_⟩
    refine callV_fn ((badStack_spec _ _ _).mono ?_)
    rintro v h2 ⟨k2, rfl⟩
    refine ⟨_, rfl, ?_⟩
    refine cIf (fun hb => ?_) (fun hb => ?_)
    · exact ⟨_, rfl, k1.trans k2, ⟨fun _ hgl => by have := good_mem hgl hil; omega, fun _ => by omega⟩⟩
    · rw [w64n (by omega)]
      refine ⟨⟨k1.trans k2, i + 1, rfl, by omega, ?_⟩, by simp only [Int.toNat_natCast]; omega⟩
      rw [take_snoc hil]
      exact good_append.2 ⟨hg, fun u hu => by simp at hu; subst hu; omega⟩
  · have hin : i = l.length := by omega
    subst hin
    rw [List.take_length] at hg
    exact ⟨_, rfl, k1, ⟨fun h => by omega, fun h => absurd hg h⟩⟩
theorem hasBad_spec {h : Heap} {a : Option Addr} {n c : Nat} {l : List Stk} (s : Sl h a n c l) (hn : n ≤ 1000) : Run Try.prog 57 [.slice a n c, .func (.func 58) #[] #[]] h fun v h' => ∃ b : Bool, v = .bool b ∧ Keep h h' ∧ (b = true ↔ ¬ good l) := by
  refine V57 _ _ _ _ _ _ ?_
  unfold VC57
  refine (indexBad_spec s hn).mono ?_
  rintro v h1 ⟨x, rfl, k1, hx⟩
  exact ⟨_, rfl, _, rfl, k1, by rw [decide_eq_true_iff]; exact hx⟩

/-- A map's counts are those of l. -/
structure CM (l c : List Stk) : Prop where
  tots : ∀ k, tot c k = tot l k
  pos : ∀ p ∈ c, 1 ≤ p.1 ∧ 0 ≤ p.2 ∧ p.2 ≤ MaxQ
  top : ∀ p ∈ c, p.1 ≤ 9223372036854775807
  len : c.length ≤ l.length
theorem cSet_len (c : List Stk) (k n : Int) : (cSet c k n).length ≤ c.length + 1 := by
  induction c with
  | nil => simp [cSet]
  | cons p c ih =>
    simp only [cSet]
    split <;> simp only [List.length_cons] <;> omega
def CountsR (h : Heap) (l : List Stk) (v : Value) (h' : Heap) : Prop :=
  ∃ (r : Option Nat) (c : List Stk) (e : Int), v = .tuple #[.map r, .int .i64 e] ∧ MapO h' r (MV c) ∧ Keep h h' ∧ (∀ b, r = some b → h.size ≤ b) ∧ e = errN l ∧ (e = 0 → CM l c ∧ ∃ b, r = some b) ∧ (e ≠ 0 → r = none ∧ c = [])

theorem counts_spec {h : Heap} {a : Option Addr} {n c : Nat} {l : List Stk} (s : Sl h a n c l) (hr : rng l) (hn : n ≤ 1000) : Run Try.prog 39 [.slice a n c] h (CountsR h l) := by
  have hln : l.length = n := s.1
  have hM : MaxQ = 1125899906842624 := rfl
  refine V39 _ _ _ _ _ ?_
  unfold VC39
  refine (hasBad_spec s hn).mono ?_
  rintro v h1 ⟨b, rfl, k1, hb⟩
  refine ⟨_, rfl, cB (fun ht => ?_) (fun hf => ?_)⟩
  · exact ⟨none, [], 1, rfl, rfl, k1, (fun b hb => nomatch hb), (errN_bad (hb.1 ht)).symm, by simp, fun _ => ⟨rfl, rfl⟩⟩
  have hg : good l := Classical.byContradiction fun hng => by rw [hb.2 hng] at hf; cases hf
  refine newB_intro fun h2 hm2 k2 s2 => ?_
  refine ⟨fun b x h3 => ∃ (i : Nat) (c : List Stk), x = i ∧ i ≤ n ∧ Keep h h3 ∧ h1.size < h3.size ∧ MapI h3 h1.size (MV c) ∧ (∀ p ∈ c, 1 ≤ p.1 ∧ 0 ≤ p.2 ∧ p.2 ≤ MaxQ) ∧ (∀ p ∈ c, p.1 ≤ 9223372036854775807) ∧ c.length ≤ i ∧ (b = false → ∀ k, tot c k = tot (l.take i) k) ∧ (b = true → over l),
    fun _ x _ => n - x.toNat, ⟨0, [], rfl, by omega, k1.trans k2, by omega, .made hm2, by simp, by simp, by simp, fun _ k => by simp [tot], by simp⟩, ?_⟩
  rintro - h3 bb x ⟨i, c, rfl, hi, k3, hs3, hm, hpos, htop, hlen, hF, hT⟩
  have s3 := s.keep k3
  refine cIf (fun hx => ?_) (fun hx => ?_)
  · have hil : i < l.length := by omega
    have hgm := good_mem hg hil
    have hrm := hr l[i] (by simp)
    refine Sl.el s3 hil fun b o c0 c1 => ⟨by omega, by omega, _, c0, _, c1, ?_⟩
    refine newB_intro fun h4 hb4 k4 s4 => ?_
    refine storeS_blk (l := [.int .i64 0, .int .i64 0]) hb4 (by simp) (by simp [single]) fun h5 hb5 k5 s5 => ?_
    have hb5' : h5[h3.size]? = some (.cells #[.int .i64 l[i].1, .int .i64 l[i].2] 43 (0, 0)) := by simpa [splice] using hb5
    have k45 : Keep h3 h5 := ((KB.of_keep k4).trans k5).keep (by simp)
    have hm5 := hm.keep k45
    refine ⟨_, by rw [hcell_of hb5']; rfl, ?_⟩
    refine lookM (r := some h1.size) hm5 fun hnd => ⟨_, rfl, ?_⟩
    refine ⟨_, by rw [hcell_of hb5']; rfl, ?_⟩
    have ht0 : 0 ≤ tot c l[i].1 ∧ tot c l[i].1 ≤ MaxQ := by
      by_cases h0 : tot c l[i].1 = 0
      · rw [h0]; decide
      · obtain ⟨p, hp, he⟩ := tot_pos h0
        rw [← he, tot_mem hnd hp]; exact (hpos p hp).2
    rw [w64n (by omega)]
    have hsn : ∀ k, tot (l.take (i + 1)) k = tot (l.take i) k + if l[i].1 = k then l[i].2 else 0 := fun k => by rw [take_snoc hil, tot_snoc]
    have hcell : hcell h5 ⟨h3.size, 0, none⟩ = some (.int .i64 l[i].1) := by rw [hcell_of hb5']; rfl
    have hput : ∀ (b' : Bool) (n' : Int) (h7 : Heap), 0 ≤ n' → n' ≤ MaxQ → (b' = false → bb = false ∧ n' = tot c l[i].1 + l[i].2) → (b' = true → over l) → MapI h7 h1.size (MV (cSet c l[i].1 n')) → KB [h1.size] h5 h7 → h7.size = h5.size →
        (∃ (i' : Nat) (c : List Stk), ((i + 1 : Nat) : Int) = i' ∧ i' ≤ n ∧ Keep h h7 ∧ h1.size < h7.size ∧ MapI h7 h1.size (MV c) ∧ (∀ p ∈ c, 1 ≤ p.1 ∧ 0 ≤ p.2 ∧ p.2 ≤ MaxQ) ∧ (∀ p ∈ c, p.1 ≤ 9223372036854775807) ∧ c.length ≤ i' ∧ (b' = false → ∀ k, tot c k = tot (l.take i') k) ∧ (b' = true → over l)) ∧
        n - Int.toNat ((i + 1 : Nat) : Int) < n - Int.toNat (i : Int) := by
      intro b' n' h7 h70 h71 hf' ht' hm7 k7 s7
      refine ⟨⟨i + 1, _, rfl, by omega, ((KB.of_keep (k3.trans k45)).trans k7).keep (by have := k1.size; simp; omega), by have := k45.size; omega, hm7, fun p hp => ?_, fun p hp => ?_, by have := cSet_len c l[i].1 n'; omega, fun hb' k => ?_, ht'⟩, by simp only [Int.toNat_natCast]; omega⟩
      · rcases cSet_mem hp with rfl | hp
        · exact ⟨hgm.1, h70, h71⟩
        · exact hpos p hp
      · rcases cSet_mem hp with rfl | hp
        · exact hrm.1.2
        · exact htop p hp
      · obtain ⟨h8, h9⟩ := hf' hb'
        rw [cSet_tot hnd, hsn, ← hF h8, h9]
        by_cases hk : k = l[i].1
        · subst hk; rw [if_pos rfl, if_pos rfl]
        · rw [if_neg hk, if_neg (Ne.symm hk), Int.add_zero]
    have hovr : MaxQ < tot c l[i].1 + l[i].2 → over l := by
      intro ho
      cases hbb : bb with
      | true => exact hT hbb
      | false =>
        refine ⟨l[i], by simp, ?_⟩
        have h1 := hF hbb l[i].1
        have h2 := hsn l[i].1
        rw [if_pos rfl] at h2
        have h3 := tot_take_le hg (i + 1) l[i].1
        omega
    refine calcAdd_spec ht0 (by omega) (fun ha => ⟨_, _, rfl, ?_⟩) (fun ha => ⟨_, _, rfl, ?_⟩)
    · refine cNe (fun h => absurd rfl h) fun _ => ?_
      refine cIf (fun ho => ?_) (fun ho => ?_)
      · refine ⟨_, hcell, updM hm5 fun h7 hm7 k7 s7 => ?_⟩
        exact hput true _ h7 (by omega) (by omega) (by simp) (fun _ => hovr (by omega)) hm7 k7 s7
      · refine ⟨_, hcell, updM hm5 fun h7 hm7 k7 s7 => ?_⟩
        exact hput bb _ h7 (by omega) (by omega) (fun hb => ⟨hb, rfl⟩) hT hm7 k7 s7
    · refine cNe (fun _ => ?_) fun h => absurd h (by decide)
      refine ⟨_, hcell, updM hm5 fun h7 hm7 k7 s7 => ?_⟩
      exact hput true _ h7 (by omega) (by omega) (by simp) (fun _ => hovr (by omega)) hm7 k7 s7
  · have hin : i = l.length := by omega
    subst hin
    rw [List.take_length] at hF
    refine cB (fun ht => ?_) (fun hf => ?_)
    · exact ⟨none, [], 5, rfl, rfl, k3, (fun b hb => nomatch hb), (errN_over hg (hT ht)).symm, by simp, fun _ => ⟨rfl, rfl⟩⟩
    · refine ⟨some h1.size, c, 0, rfl, hm, k3, fun b hb => ?_, (errN_ok hg ?_).symm, fun _ => ⟨⟨hF hf, hpos, htop, by omega⟩, _, rfl⟩, fun h => absurd rfl h⟩
      · cases hb; exact k1.size
      · rintro ⟨s, hs, ho⟩
        rw [← hF hf] at ho
        have : 0 ≤ MaxQ := by decide
        obtain ⟨p, hp, he⟩ := tot_pos (l := c) (k := s.1) (by omega)
        have hnd : (c.map (·.1)).Nodup := by rw [← MV_keys]; exact MapI.nodup hm
        rw [← he, tot_mem hnd hp] at ho
        have := (hpos p hp).2.2
        omega
end Go.Proofs.Ytljgfkiiikcaaaa

/-
  DERIVED: THE SHELF's CONTRACTS AT THIS DUMP, IN PLAIN WORDS (tools/lay-plain.mjs out of 'YtljgfkiiikcaaaaLx.lean', which tools/lay-shelf.mjs wrote): THE SAME DECLARATIONS UNDER THE SAME NAMES: 'import', 'namespace', 'open', 'def', 'theorem' AND NOTHING ELSE: no command of the shelf's: FOR A HAND-IN. Each laying: the table of numbers ('.._ren') and one theorem, a field a fact of the dump's own or the kernel's comparison; each contract: ONE APPLICATION.
-/
namespace Go.Proofs
open Go.Shelf
def Try.lays264_ren : Go.Shelf.Ren := ⟨fun | 264 => 72 | n => n, fun | 53 => 122 | 46 => 96 | n => n, fun | n => n⟩
theorem Try.lays264 : Go.Proofs.Lays.n264 Try.prog Try.lays264_ren := {
  mixed := by kernel_rfl
  f264 := Try.func72.trans (congrArg some (by kernel_rfl))
  t46 := Try.underlying96
  a46 := Try.isAgg96
  z46 := Try.sizeOf96
  v46 := Try.zeroValue96
  t53 := Try.underlying122
  a53 := Try.isAgg122
  z53 := Try.sizeOf122
  v53 := Try.zeroValue122 }
def Try.sortL_ren : Go.Shelf.Ren := ⟨fun | 6 => 24 | 15 => 43 | 14 => 42 | 28 => 67 | 29 => 68 | 20 => 59 | 21 => 60 | 22 => 61 | 23 => 62 | 24 => 63 | 25 => 64 | 26 => 65 | 27 => 66 | 46 => 84 | 47 => 85 | 48 => 86 | 49 => 87 | 50 => 88 | 57 => 93 | n => n, fun | 22 => 30 | 24 => 43 | 25 => 70 | 3 => 3 | 39 => 96 | 0 => 0 | 53 => 120 | 55 => 122 | 4 => 4 | 46 => 113 | 45 => 112 | 50 => 117 | 5 => 5 | 9 => 9 | 66 => 142 | 70 => 146 | 76 => 151 | 77 => 152 | n => n, fun | n => n⟩
theorem Try.sortL : Go.Proofs.SlLaysF0.n6 Try.prog Try.sortL_ren := {
  mixed := by kernel_rfl
  f6 := ⟨Try.f24.name, by decide, Try.func24.trans (congrArg some (by kernel_rfl))⟩
  f14 := ⟨Try.f42.name, by decide, Try.func42.trans (congrArg some (by kernel_rfl))⟩
  f15 := Try.func43.trans (congrArg some (by kernel_rfl))
  f20 := ⟨Try.f59.name, by decide, Try.func59.trans (congrArg some (by kernel_rfl))⟩
  f21 := ⟨Try.f60.name, by decide, Try.func60.trans (congrArg some (by kernel_rfl))⟩
  f22 := ⟨Try.f61.name, by decide, Try.func61.trans (congrArg some (by kernel_rfl))⟩
  f23 := ⟨Try.f62.name, by decide, Try.func62.trans (congrArg some (by kernel_rfl))⟩
  f24 := ⟨Try.f63.name, by decide, Try.func63.trans (congrArg some (by kernel_rfl))⟩
  f25 := ⟨Try.f64.name, by decide, Try.func64.trans (congrArg some (by kernel_rfl))⟩
  f26 := ⟨Try.f65.name, by decide, Try.func65.trans (congrArg some (by kernel_rfl))⟩
  f27 := ⟨Try.f66.name, by decide, Try.func66.trans (congrArg some (by kernel_rfl))⟩
  f28 := Try.func67.trans (congrArg some (by kernel_rfl))
  f29 := Try.func68.trans (congrArg some (by kernel_rfl))
  f46 := ⟨Try.f84.name, by decide, Try.func84.trans (congrArg some (by kernel_rfl))⟩
  f47 := Try.func85.trans (congrArg some (by kernel_rfl))
  f48 := Try.func86.trans (congrArg some (by kernel_rfl))
  f49 := ⟨Try.f87.name, by decide, Try.func87.trans (congrArg some (by kernel_rfl))⟩
  f50 := ⟨Try.f88.name, by decide, Try.func88.trans (congrArg some (by kernel_rfl))⟩
  f57 := ⟨Try.f93.name, by decide, Try.func93.trans (congrArg some (by kernel_rfl))⟩
  t0 := Try.underlying0
  a0 := Try.isAgg0
  z0 := Try.sizeOf0
  v0 := Try.zeroValue0
  t3 := Try.underlying3
  a3 := Try.isAgg3
  z3 := Try.sizeOf3
  v3 := Try.zeroValue3
  t4 := Try.underlying4
  a4 := Try.isAgg4
  z4 := Try.sizeOf4
  v4 := Try.zeroValue4
  t5 := Try.underlying5
  a5 := Try.isAgg5
  z5 := Try.sizeOf5
  v5 := Try.zeroValue5
  t9 := Try.underlying9
  a9 := Try.isAgg9
  z9 := Try.sizeOf9
  v9 := Try.zeroValue9
  t22 := Try.underlying30
  a22 := Try.isAgg30
  z22 := Try.sizeOf30
  v22 := Try.zeroValue30
  t25 := Try.underlying70
  a25 := Try.isAgg70
  z25 := Try.sizeOf70
  v25 := Try.zeroValue70
  t39 := Try.underlying96
  a39 := Try.isAgg96
  z39 := Try.sizeOf96
  v39 := Try.zeroValue96
  t45 := Try.underlying112
  a45 := Try.isAgg112
  z45 := Try.sizeOf112
  v45 := Try.zeroValue112
  t46 := Try.underlying113
  a46 := Try.isAgg113
  z46 := Try.sizeOf113
  v46 := Try.zeroValue113
  t50 := Try.underlying117
  a50 := Try.isAgg117
  z50 := Try.sizeOf117
  v50 := Try.zeroValue117
  t53 := Try.underlying120
  a53 := Try.isAgg120
  z53 := Try.sizeOf120
  v53 := Try.zeroValue120
  t55 := Try.underlying122
  a55 := Try.isAgg122
  z55 := Try.sizeOf122
  v55 := Try.zeroValue122
  t66 := Try.underlying142
  a66 := Try.isAgg142
  z66 := Try.sizeOf142
  v66 := Try.zeroValue142
  t70 := Try.underlying146
  a70 := Try.isAgg146
  z70 := Try.sizeOf146
  v70 := Try.zeroValue146
  t76 := Try.underlying151
  a76 := Try.isAgg151
  z76 := Try.sizeOf151
  v76 := Try.zeroValue151
  t77 := Try.underlying152
  a77 := Try.isAgg152
  z77 := Try.sizeOf152
  v77 := Try.zeroValue152 }
end Go.Proofs

/- Verification conditions of functions, written by program (pvc.py) and held against the program by the kernel. -/
set_option linter.unusedVariables false
set_option maxRecDepth 100000
namespace Go.Proofs.Ytljgfkiiikcaaaa
open Go Go.Proofs
theorem mixV1 : Try.prog.follows .mixedOrders = true := by kernel_rfl
/- bottomry/graph.made -/
def H55 : Hn := ⟨[(5, [(24, .i .i64)])], [], []⟩
def VC55 (n : Int) (needsA : Option Addr) (needsN : Nat) (needsC : Nat) (h : Heap) (R : Value → Heap → Prop) : Prop :=
  bif decide (n < 0) then R (.pointer none) h else (bif decide (n > 64) then R (.pointer none) h else (bif decide ((needsN : Int) > 256) then R (.pointer none) h else newB h (.cells #[.int .i64 n, .slice none 0 0, .slice none 0 0, .slice none 0 0, .slice none 0 0, .slice none 0 0, .slice none 0 0, .slice none 0 0, .slice none 0 0, .slice none 0 0, .slice none 0 0, .slice none 0 0, .slice none 0 0, .slice none 0 0, .slice none 0 0, .slice none 0 0, .slice none 0 0, .slice none 0 0, .slice none 0 0, .slice none 0 0, .slice none 0 0, .slice none 0 0, .slice none 0 0, .slice none 0 0, .slice none 0 0, .slice none 0 0, .slice none 0 0, .slice none 0 0, .slice none 0 0, .slice none 0 0, .slice none 0 0, .slice none 0 0, .slice none 0 0, .slice none 0 0, .slice none 0 0, .slice none 0 0, .slice none 0 0, .slice none 0 0, .slice none 0 0, .slice none 0 0, .slice none 0 0, .slice none 0 0, .slice none 0 0, .slice none 0 0, .slice none 0 0, .slice none 0 0, .slice none 0 0, .slice none 0 0, .slice none 0 0, .slice none 0 0, .slice none 0 0, .slice none 0 0, .slice none 0 0, .slice none 0 0, .slice none 0 0, .slice none 0 0, .slice none 0 0, .slice none 0 0, .slice none 0 0, .slice none 0 0, .slice none 0 0, .slice none 0 0, .slice none 0 0, .slice none 0 0, .slice none 0 0, .slice none 0 0, .int .i64 0, .int .i64 0, .int .i64 0, .int .i64 0, .int .i64 0, .int .i64 0, .int .i64 0, .int .i64 0, .int .i64 0, .int .i64 0, .int .i64 0, .int .i64 0, .int .i64 0, .int .i64 0, .int .i64 0, .int .i64 0, .int .i64 0, .int .i64 0, .int .i64 0, .int .i64 0, .int .i64 0, .int .i64 0, .int .i64 0, .int .i64 0, .int .i64 0, .int .i64 0, .int .i64 0, .int .i64 0, .int .i64 0, .int .i64 0, .int .i64 0, .int .i64 0, .int .i64 0, .int .i64 0, .int .i64 0, .int .i64 0, .int .i64 0, .int .i64 0, .int .i64 0, .int .i64 0, .int .i64 0, .int .i64 0, .int .i64 0, .int .i64 0, .int .i64 0, .int .i64 0, .int .i64 0, .int .i64 0, .int .i64 0, .int .i64 0, .int .i64 0, .int .i64 0, .int .i64 0, .int .i64 0, .int .i64 0, .int .i64 0, .int .i64 0, .int .i64 0, .int .i64 0, .int .i64 0, .int .i64 0, .int .i64 0, .int .i64 0, .int .i64 0, .int .i64 0, .slice none 0 0, .slice none 0 0, .slice none 0 0, .slice none 0 0, .slice none 0 0, .slice none 0 0, .slice none 0 0, .slice none 0 0, .slice none 0 0, .slice none 0 0, .slice none 0 0, .slice none 0 0, .slice none 0 0, .slice none 0 0, .slice none 0 0, .slice none 0 0, .slice none 0 0, .slice none 0 0, .slice none 0 0, .slice none 0 0, .slice none 0 0, .slice none 0 0, .slice none 0 0, .slice none 0 0, .slice none 0 0, .slice none 0 0, .slice none 0 0, .slice none 0 0, .slice none 0 0, .slice none 0 0, .slice none 0 0, .slice none 0 0, .slice none 0 0, .slice none 0 0, .slice none 0 0, .slice none 0 0, .slice none 0 0, .slice none 0 0, .slice none 0 0, .slice none 0 0, .slice none 0 0, .slice none 0 0, .slice none 0 0, .slice none 0 0, .slice none 0 0, .slice none 0 0, .slice none 0 0, .slice none 0 0, .slice none 0 0, .slice none 0 0, .slice none 0 0, .slice none 0 0, .slice none 0 0, .slice none 0 0, .slice none 0 0, .slice none 0 0, .slice none 0 0, .slice none 0 0, .slice none 0 0, .slice none 0 0, .slice none 0 0, .slice none 0 0, .slice none 0 0, .slice none 0 0, .slice none 0 0] 139) (fun m1 h1 => ∃ k1 : Int → Heap → Prop, ∃ z1 : Int → Heap → Nat, k1 0 h1 ∧ (∀ g1 : Nat → Value, ∀ h2 : Heap, ∀ x1 : Int, k1 x1 h2 → (bif decide (x1 < (needsN : Int)) then onPtr needsA (fun m2 m3 => 0 ≤ x1 ∧ x1 < (needsN : Int) ∧ (∃ x2 : Int, hcell h2 ⟨m2, m3 + Int.toNat x1 * 2, none⟩ = some (.int .i64 x2) ∧ (∃ x3 : Int, hcell h2 ⟨m2, m3 + Int.toNat x1 * 2 + 1, none⟩ = some (.int .i64 x3) ∧ (newB h2 (.cells #[.int .i64 0, .int .i64 0] 87) (fun m4 h3 => storeS m4 0 [.int .i64 x2, .int .i64 x3] 0 h3 (fun h4 => 0 ≤ (0 : Int) ∧ (0 : Int) < 2 ∧ (∃ x4 : Int, hcell h4 ⟨m4, 0, none⟩ = some (.int .i64 x4) ∧ (Run Try.prog 80 [.pointer (some ⟨m1, 0, none⟩), .int .i64 x4] h4 (fun v1 h5 => ∃ b1 : Bool, v1 = .bool b1 ∧ (bif !b1 then R (.pointer none) h5 else 0 ≤ (1 : Int) ∧ (1 : Int) < 2 ∧ (∃ x5 : Int, hcell h5 ⟨m4, 1, none⟩ = some (.int .i64 x5) ∧ (Run Try.prog 80 [.pointer (some ⟨m1, 0, none⟩), .int .i64 x5] h5 (fun v2 h6 => ∃ b2 : Bool, v2 = .bool b2 ∧ (bif !b2 then R (.pointer none) h6 else 0 ≤ (0 : Int) ∧ (0 : Int) < 2 ∧ (∃ x6 : Int, hcell h6 ⟨m4, 0, none⟩ = some (.int .i64 x6) ∧ (0 ≤ (0 : Int) ∧ (0 : Int) < 2 ∧ (∃ x7 : Int, hcell h6 ⟨m4, 0, none⟩ = some (.int .i64 x7) ∧ (0 ≤ x7 ∧ x7 < 65 ∧ (∃ p1 : Option Addr, ∃ m5 : Nat, ∃ m6 : Nat, hcell h6 ⟨m1, 1 + Int.toNat x7 * 1, none⟩ = some (.slice p1 m5 m6) ∧ (0 ≤ (1 : Int) ∧ (1 : Int) < 2 ∧ (∃ x8 : Int, hcell h6 ⟨m4, 1, none⟩ = some (.int .i64 x8) ∧ (newB h6 (.cells #[.int .i64 x8] 3) (fun m7 h7 => (∃ p2 : Option Addr, ∃ m8 : Nat, ∃ m9 : Nat, hcell h7 ⟨m1, 1 + Int.toNat x7 * 1, none⟩ = some (.slice p2 m8 m9) ∧ (Value.slice p2 m8 m9 = .slice p1 m5 m6)) ∧ ((∃ x9 : Int, hcell h7 ⟨m4, 0, none⟩ = some (.int .i64 x9) ∧ (Value.int .i64 x9 = .int .i64 x7)) ∧ ((∃ x10 : Int, hcell h7 ⟨m4, 0, none⟩ = some (.int .i64 x10) ∧ (Value.int .i64 x10 = .int .i64 x6)) ∧ (appK Try.prog #[33, 33] 33 (.slice p1 m5 m6) (.slice (some ⟨m7, 0, none⟩) 1 1) h7 (fun v3 h8 => ∃ p3 : Option Addr, ∃ m10 : Nat, ∃ m11 : Nat, v3 = .slice p3 m10 m11 ∧ ((∃ x11 : Int, hcell h8 ⟨m4, 0, none⟩ = some (.int .i64 x11) ∧ (Value.int .i64 x11 = .int .i64 x6)) ∧ (0 ≤ x6 ∧ x6 < 65 ∧ (stK h8 ⟨m1, 1 + Int.toNat x6 * 1, none⟩ (.slice p3 m10 m11) (fun h9 => 0 ≤ (1 : Int) ∧ (1 : Int) < 2 ∧ (∃ x12 : Int, hcell h9 ⟨m4, 1, none⟩ = some (.int .i64 x12) ∧ (0 ≤ (1 : Int) ∧ (1 : Int) < 2 ∧ (∃ x13 : Int, hcell h9 ⟨m4, 1, none⟩ = some (.int .i64 x13) ∧ (0 ≤ x13 ∧ x13 < 65 ∧ (∃ p4 : Option Addr, ∃ m12 : Nat, ∃ m13 : Nat, hcell h9 ⟨m1, 131 + Int.toNat x13 * 1, none⟩ = some (.slice p4 m12 m13) ∧ (0 ≤ (0 : Int) ∧ (0 : Int) < 2 ∧ (∃ x14 : Int, hcell h9 ⟨m4, 0, none⟩ = some (.int .i64 x14) ∧ (newB h9 (.cells #[.int .i64 x14] 3) (fun m14 h10 => (∃ p5 : Option Addr, ∃ m15 : Nat, ∃ m16 : Nat, hcell h10 ⟨m1, 131 + Int.toNat x13 * 1, none⟩ = some (.slice p5 m15 m16) ∧ (Value.slice p5 m15 m16 = .slice p4 m12 m13)) ∧ ((∃ x15 : Int, hcell h10 ⟨m4, 1, none⟩ = some (.int .i64 x15) ∧ (Value.int .i64 x15 = .int .i64 x13)) ∧ ((∃ x16 : Int, hcell h10 ⟨m4, 1, none⟩ = some (.int .i64 x16) ∧ (Value.int .i64 x16 = .int .i64 x12)) ∧ (appK Try.prog #[33, 33] 33 (.slice p4 m12 m13) (.slice (some ⟨m14, 0, none⟩) 1 1) h10 (fun v4 h11 => ∃ p6 : Option Addr, ∃ m17 : Nat, ∃ m18 : Nat, v4 = .slice p6 m17 m18 ∧ ((∃ x17 : Int, hcell h11 ⟨m4, 1, none⟩ = some (.int .i64 x17) ∧ (Value.int .i64 x17 = .int .i64 x12)) ∧ (0 ≤ x12 ∧ x12 < 65 ∧ (stK h11 ⟨m1, 131 + Int.toNat x12 * 1, none⟩ (.slice p6 m17 m18) (fun h12 => 0 ≤ (0 : Int) ∧ (0 : Int) < 2 ∧ (∃ x18 : Int, hcell h12 ⟨m4, 0, none⟩ = some (.int .i64 x18) ∧ (0 ≤ x18 ∧ x18 < 65 ∧ (∃ x19 : Int, hcell h12 ⟨m1, 66 + Int.toNat x18 * 1, none⟩ = some (.int .i64 x19) ∧ (0 ≤ x18 ∧ x18 < 65 ∧ (stK h12 ⟨m1, 66 + Int.toNat x18 * 1, none⟩ (.int .i64 (IntKind.wrap .i64 (x19 + 1))) (fun h13 => k1 (IntKind.wrap .i64 (x1 + 1)) h13 ∧ z1 (IntKind.wrap .i64 (x1 + 1)) h13 < z1 x1 h2)))))))))))))))))))))))))))))))))))))))))))))))))))))) else R (.pointer (some ⟨m1, 0, none⟩)) h2)))))
theorem V55 (n : Int) (needsA : Option Addr) (needsN : Nat) (needsC : Nat) (h : Heap) (R : Value → Heap → Prop) (hh : VC55 n needsA needsN needsC h R) : Run Try.prog 55 [.int .i64 n, .slice needsA needsN needsC] h R :=
  fun_sound2 mixV1 Try.func55 (by kernel_rfl) (H := H55) (by kernel_rfl) hh

/- (*bottomry/graph.web).order -/
def H56 : Hn := ⟨[(3, [(3, .sl), (5, .i .i64)]), (7, [(3, .sl), (4, .sl)]), (12, [(3, .sl), (47, .i .i64)])], [], []⟩
def VC56 (w : Option Addr) (h : Heap) (R : Value → Heap → Prop) : Prop :=
  ∃ k1 : Option Addr → Nat → Nat → Int → Heap → Prop, ∃ z1 : Option Addr → Nat → Nat → Int → Heap → Nat, k1 none 0 0 1 h ∧ (∀ g1 : Nat → Value, ∀ h1 : Heap, ∀ p1 : Option Addr, ∀ m1 : Nat, ∀ m2 : Nat, ∀ x1 : Int, k1 p1 m1 m2 x1 h1 → onPtr w (fun m3 m4 => ∃ x2 : Int, hcell h1 ⟨m3, m4, none⟩ = some (.int .i64 x2) ∧ (bif decide (x1 ≤ x2) then onPtr w (fun m5 m6 => 0 ≤ x1 ∧ x1 < 65 ∧ (∃ x3 : Int, hcell h1 ⟨m5, m6 + 66 + Int.toNat x1 * 1, none⟩ = some (.int .i64 x3) ∧ (bif x3 == 0 then newB h1 (.cells #[.int .i64 x1] 3) (fun m7 h2 => appK Try.prog #[33, 33] 33 (.slice p1 m1 m2) (.slice (some ⟨m7, 0, none⟩) 1 1) h2 (fun v1 h3 => ∃ p2 : Option Addr, ∃ m8 : Nat, ∃ m9 : Nat, v1 = .slice p2 m8 m9 ∧ (k1 p2 m8 m9 (IntKind.wrap .i64 (x1 + 1)) h3 ∧ z1 p2 m8 m9 (IntKind.wrap .i64 (x1 + 1)) h3 < z1 p1 m1 m2 x1 h1))) else k1 p1 m1 m2 (IntKind.wrap .i64 (x1 + 1)) h1 ∧ z1 p1 m1 m2 (IntKind.wrap .i64 (x1 + 1)) h1 < z1 p1 m1 m2 x1 h1))) else ∃ k2 : Option Addr → Nat → Nat → Option Addr → Nat → Nat → Heap → Prop, ∃ z2 : Option Addr → Nat → Nat → Option Addr → Nat → Nat → Heap → Nat, k2 p1 m1 m2 none 0 0 h1 ∧ (∀ g2 : Nat → Value, ∀ h4 : Heap, ∀ p3 : Option Addr, ∀ m10 : Nat, ∀ m11 : Nat, ∀ p4 : Option Addr, ∀ m12 : Nat, ∀ m13 : Nat, k2 p3 m10 m11 p4 m12 m13 h4 → (bif decide ((m10 : Int) > 0) then Run Try.prog 29 [.slice p3 m10 m11] h4 (fun v2 h5 => ∃ x4 : Int, v2 = .int .i64 x4 ∧ (newB h5 (.cells #[.int .i64 0] 3) (fun m14 h6 => stK h6 ⟨m14, 0, none⟩ (.int .i64 x4) (fun h7 => Run Try.prog 81 [.slice p3 m10 m11, .func (.func 82) #[] #[.pointer (some ⟨m14, 0, none⟩)]] h7 (fun v3 h8 => ∃ p5 : Option Addr, ∃ m15 : Nat, ∃ m16 : Nat, v3 = .slice p5 m15 m16 ∧ (∃ x5 : Int, hcell h8 ⟨m14, 0, none⟩ = some (.int .i64 x5) ∧ (newB h8 (.cells #[.int .i64 x5] 3) (fun m17 h9 => appK Try.prog #[33, 33] 33 (.slice p4 m12 m13) (.slice (some ⟨m17, 0, none⟩) 1 1) h9 (fun v4 h10 => ∃ p6 : Option Addr, ∃ m18 : Nat, ∃ m19 : Nat, v4 = .slice p6 m18 m19 ∧ (∃ x6 : Int, hcell h10 ⟨m14, 0, none⟩ = some (.int .i64 x6) ∧ (onPtr w (fun m20 m21 => 0 ≤ x6 ∧ x6 < 65 ∧ (∃ p7 : Option Addr, ∃ m22 : Nat, ∃ m23 : Nat, hcell h10 ⟨m20, m21 + 131 + Int.toNat x6 * 1, none⟩ = some (.slice p7 m22 m23) ∧ (∃ k3 : Option Addr → Nat → Nat → Int → Heap → Prop, ∃ z3 : Option Addr → Nat → Nat → Int → Heap → Nat, k3 p5 m15 m16 0 h10 ∧ (∀ g3 : Nat → Value, ∀ h11 : Heap, ∀ p8 : Option Addr, ∀ m24 : Nat, ∀ m25 : Nat, ∀ x7 : Int, k3 p8 m24 m25 x7 h11 → (bif decide (x7 < (m22 : Int)) then onPtr p7 (fun m26 m27 => 0 ≤ x7 ∧ x7 < (m22 : Int) ∧ (∃ x8 : Int, hcell h11 ⟨m26, m27 + Int.toNat x7 * 1, none⟩ = some (.int .i64 x8) ∧ (onPtr w (fun m28 m29 => 0 ≤ x8 ∧ x8 < 65 ∧ (∃ x9 : Int, hcell h11 ⟨m28, m29 + 66 + Int.toNat x8 * 1, none⟩ = some (.int .i64 x9) ∧ (onPtr w (fun m30 m31 => 0 ≤ x8 ∧ x8 < 65 ∧ (stK h11 ⟨m30, m31 + 66 + Int.toNat x8 * 1, none⟩ (.int .i64 (IntKind.wrap .i64 (x9 - 1))) (fun h12 => onPtr w (fun m32 m33 => 0 ≤ x8 ∧ x8 < 65 ∧ (∃ x10 : Int, hcell h12 ⟨m32, m33 + 66 + Int.toNat x8 * 1, none⟩ = some (.int .i64 x10) ∧ (bif x10 == 0 then newB h12 (.cells #[.int .i64 x8] 3) (fun m34 h13 => appK Try.prog #[33, 33] 33 (.slice p8 m24 m25) (.slice (some ⟨m34, 0, none⟩) 1 1) h13 (fun v5 h14 => ∃ p9 : Option Addr, ∃ m35 : Nat, ∃ m36 : Nat, v5 = .slice p9 m35 m36 ∧ (k3 p9 m35 m36 (IntKind.wrap .i64 (x7 + 1)) h14 ∧ z3 p9 m35 m36 (IntKind.wrap .i64 (x7 + 1)) h14 < z3 p8 m24 m25 x7 h11))) else k3 p8 m24 m25 (IntKind.wrap .i64 (x7 + 1)) h12 ∧ z3 p8 m24 m25 (IntKind.wrap .i64 (x7 + 1)) h12 < z3 p8 m24 m25 x7 h11)))))))))))) else k2 p8 m24 m25 p6 m18 m19 h11 ∧ z2 p8 m24 m25 p6 m18 m19 h11 < z2 p3 m10 m11 p4 m12 m13 h4)))))))))))))))) else R (.slice p4 m12 m13) h4)))))
theorem V56 (w : Option Addr) (h : Heap) (R : Value → Heap → Prop) (hh : VC56 w h R) : Run Try.prog 56 [.pointer w] h R :=
  fun_sound2 mixV1 Try.func56 (by kernel_rfl) (H := H56) (by kernel_rfl) hh

/- (*bottomry/graph.web).is -/
def H80 : Hn := ⟨[], [], []⟩
def VC80 (w : Option Addr) (node : Int) (h : Heap) (R : Value → Heap → Prop) : Prop :=
  bif decide (node ≥ 1) then onPtr w (fun m1 m2 => ∃ x1 : Int, hcell h ⟨m1, m2, none⟩ = some (.int .i64 x1) ∧ (R (.bool (decide (node ≤ x1))) h)) else R (.bool false) h
theorem V80 (w : Option Addr) (node : Int) (h : Heap) (R : Value → Heap → Prop) (hh : VC80 w node h R) : Run Try.prog 80 [.pointer w, .int .i64 node] h R :=
  fun_sound2 mixV1 Try.func80 (by kernel_rfl) (H := H80) (by kernel_rfl) hh

/- bottomry/graph.ordered -/
def H37 : Hn := ⟨[], [], []⟩
def VC37 (n : Int) (needsA : Option Addr) (needsN : Nat) (needsC : Nat) (h : Heap) (R : Value → Heap → Prop) : Prop :=
  Run Try.prog 55 [.int .i64 n, .slice needsA needsN needsC] h (fun v1 h1 => ∃ p1 : Option Addr, v1 = .pointer p1 ∧ (bif Option.isNone p1 then R (.tuple #[.pointer none, .slice none 0 0, .int .i64 1]) h1 else Run Try.prog 56 [.pointer p1] h1 (fun v2 h2 => ∃ p2 : Option Addr, ∃ m1 : Nat, ∃ m2 : Nat, v2 = .slice p2 m1 m2 ∧ (bif decide ((m1 : Int) < n) then R (.tuple #[.pointer none, .slice none 0 0, .int .i64 9]) h2 else R (.tuple #[.pointer p1, .slice p2 m1 m2, .int .i64 0]) h2))))
theorem V37 (n : Int) (needsA : Option Addr) (needsN : Nat) (needsC : Nat) (h : Heap) (R : Value → Heap → Prop) (hh : VC37 n needsA needsN needsC h R) : Run Try.prog 37 [.int .i64 n, .slice needsA needsN needsC] h R :=
  fun_sound2 mixV1 Try.func37 (by kernel_rfl) (H := H37) (by kernel_rfl) hh

/- slices.Min[[]int,int] -/
def H29 : Hn := ⟨[(5, [(3, .i .i64), (4, .i .i64)])], [], []⟩
def VC29 (xA : Option Addr) (xN : Nat) (xC : Nat) (h : Heap) (R : Value → Heap → Prop) : Prop :=
  bif decide ((xN : Int) < 1) then False else onPtr xA (fun m1 m2 => 0 ≤ (0 : Int) ∧ (0 : Int) < (xN : Int) ∧ (∃ x1 : Int, hcell h ⟨m1, m2 + 0 * 1, none⟩ = some (.int .i64 x1) ∧ (∃ k1 : Int → Int → Heap → Prop, ∃ z1 : Int → Int → Heap → Nat, k1 x1 1 h ∧ (∀ g1 : Nat → Value, ∀ h1 : Heap, ∀ x2 : Int, ∀ x3 : Int, k1 x2 x3 h1 → (bif decide (x3 < (xN : Int)) then onPtr xA (fun m3 m4 => 0 ≤ x3 ∧ x3 < (xN : Int) ∧ (∃ x4 : Int, hcell h1 ⟨m3, m4 + Int.toNat x3 * 1, none⟩ = some (.int .i64 x4) ∧ (k1 (if x4 < x2 then x4 else x2) (IntKind.wrap .i64 (x3 + 1)) h1 ∧ z1 (if x4 < x2 then x4 else x2) (IntKind.wrap .i64 (x3 + 1)) h1 < z1 x2 x3 h1))) else R (.int .i64 x2) h1)))))
theorem V29 (xA : Option Addr) (xN : Nat) (xC : Nat) (h : Heap) (R : Value → Heap → Prop) (hh : VC29 xA xN xC h R) : Run Try.prog 29 [.slice xA xN xC] h R :=
  fun_sound2 mixV1 Try.func29 (by kernel_rfl) (H := H29) (by kernel_rfl) hh

/- slices.DeleteFunc[[]int,int] -/
def H81 : Hn := ⟨[(5, [(5, .i .i64), (6, .i .i64)])], [], []⟩
def VC81 (sA : Option Addr) (sN : Nat) (sC : Nat) (del : Value) (h : Heap) (R : Value → Heap → Prop) : Prop :=
  Run Try.prog 69 [.slice sA sN sC, del] h (fun v1 h1 => ∃ x1 : Int, v1 = .int .i64 x1 ∧ (bif x1 == -1 then R (.slice sA sN sC) h1 else ∃ k1 : Int → Int → Heap → Prop, ∃ z1 : Int → Int → Heap → Nat, k1 x1 (IntKind.wrap .i64 (x1 + 1)) h1 ∧ (∀ g1 : Nat → Value, ∀ h2 : Heap, ∀ x2 : Int, ∀ x3 : Int, k1 x2 x3 h2 → (bif decide (x3 < (sN : Int)) then onPtr sA (fun m1 m2 => 0 ≤ x3 ∧ x3 < (sN : Int) ∧ (∃ x4 : Int, hcell h2 ⟨m1, m2 + Int.toNat x3 * 1, none⟩ = some (.int .i64 x4) ∧ (CallV Try.prog del [.int .i64 x4] h2 (fun v2 h3 => ∃ b1 : Bool, v2 = .bool b1 ∧ (bif !b1 then onPtr sA (fun m3 m4 => 0 ≤ x2 ∧ x2 < (sN : Int) ∧ (stK h3 ⟨m3, m4 + Int.toNat x2 * 1, none⟩ (.int .i64 x4) (fun h4 => k1 (IntKind.wrap .i64 (x2 + 1)) (IntKind.wrap .i64 (x3 + 1)) h4 ∧ z1 (IntKind.wrap .i64 (x2 + 1)) (IntKind.wrap .i64 (x3 + 1)) h4 < z1 x2 x3 h2))) else k1 x2 (IntKind.wrap .i64 (x3 + 1)) h3 ∧ z1 x2 (IntKind.wrap .i64 (x3 + 1)) h3 < z1 x2 x3 h2))))) else 0 ≤ x2 ∧ (x2 ≤ (sN : Int) ∧ (sN : Int) ≤ (sC : Int) ∧ (clearK Try.prog #[33] 0 (.slice (slA sA sC (Int.toNat x2) 1) (subN (Int.toNat (sN : Int)) (Int.toNat x2)) (subN sC (Int.toNat x2))) h2 (fun v3 h5 => (0 : Int) ≤ x2 ∧ x2 ≤ (sC : Int) ∧ (R (.slice sA (Int.toNat x2) sC) h5))))))))
theorem V81 (sA : Option Addr) (sN : Nat) (sC : Nat) (del : Value) (h : Heap) (R : Value → Heap → Prop) (hh : VC81 sA sN sC del h R) : Run Try.prog 81 [.slice sA sN sC, del] h R :=
  fun_sound2 mixV1 Try.func81 (by kernel_rfl) (H := H81) (by kernel_rfl) hh

/- slices.IndexFunc[[]int,int] -/
def H69 : Hn := ⟨[(2, [(8, .i .i64)])], [], []⟩
def VC69 (sA : Option Addr) (sN : Nat) (sC : Nat) (f : Value) (h : Heap) (R : Value → Heap → Prop) : Prop :=
  ∃ k1 : Int → Heap → Prop, ∃ z1 : Int → Heap → Nat, k1 0 h ∧ (∀ g1 : Nat → Value, ∀ h1 : Heap, ∀ x1 : Int, k1 x1 h1 → (bif decide (x1 < (sN : Int)) then onPtr sA (fun m1 m2 => 0 ≤ x1 ∧ x1 < (sN : Int) ∧ (∃ x2 : Int, hcell h1 ⟨m1, m2 + Int.toNat x1 * 1, none⟩ = some (.int .i64 x2) ∧ (CallV Try.prog f [.int .i64 x2] h1 (fun v1 h2 => ∃ b1 : Bool, v1 = .bool b1 ∧ (bif b1 then R (.int .i64 x1) h2 else k1 (IntKind.wrap .i64 (x1 + 1)) h2 ∧ z1 (IntKind.wrap .i64 (x1 + 1)) h2 < z1 x1 h1))))) else R (.int .i64 (-1)) h1))
theorem V69 (sA : Option Addr) (sN : Nat) (sC : Nat) (f : Value) (h : Heap) (R : Value → Heap → Prop) (hh : VC69 sA sN sC f h R) : Run Try.prog 69 [.slice sA sN sC, f] h R :=
  fun_sound2 mixV1 Try.func69 (by kernel_rfl) (H := H69) (by kernel_rfl) hh

/- (*bottomry/graph.web).order$1 -/
def H82 : Hn := ⟨[], [], []⟩
def VC82 (x : Int) (a1 : Option Addr) (h : Heap) (R : Value → Heap → Prop) : Prop :=
  onPtr a1 (fun m1 m2 => ∃ x1 : Int, hcell h ⟨m1, m2, none⟩ = some (.int .i64 x1) ∧ (R (.bool (x == x1)) h))
theorem V82 (x : Int) (a1 : Option Addr) (h : Heap) (R : Value → Heap → Prop) (hh : VC82 x a1 h R) : Run Try.prog 82 [.int .i64 x, .pointer a1] h R :=
  fun_sound2 mixV1 Try.func82 (by kernel_rfl) (H := H82) (by kernel_rfl) hh

end Go.Proofs.Ytljgfkiiikcaaaa

/- The engine, part i: slices.SortFunc on a row of structs, as a run over the heap. -/
set_option linter.unusedVariables false
namespace Go.Proofs.Ytljgfkiiikcaaaa
open Go Go.Sort Go.Shelf Go.Proofs

theorem grow_of {W w' : World} (k : Keep W.heap w'.heap) (s : Same W w') : ∃ q os', w' = grow (W.drewN q) os' := by
  refine ⟨w'.drawn - W.drawn, w'.heap.extract W.heap.size w'.heap.size, ?_⟩
  obtain ⟨hp, tp, dr, os, out⟩ := w'
  obtain ⟨h1, h2, h3, h4⟩ := s
  have k1 := k.size
  have k2 := k.blk
  simp only at h1 h2 h3 h4 k1 k2
  subst h1 h2 h3
  unfold grow World.drewN
  congr 1
  · refine Array.ext_getElem? fun i => ?_
    show hp[i]? = (W.heap ++ hp.extract W.heap.size hp.size)[i]?
    by_cases hi : i < W.heap.size
    · rw [Array.getElem?_append_left hi, k2 i hi (by simp)]
    · rw [Array.getElem?_append_right (by omega), Array.getElem?_extract]
      by_cases hj : i < hp.size
      · rw [if_pos (by omega), show W.heap.size + (i - W.heap.size) = i by omega]
      · rw [if_neg (by omega)]; simp; omega
  · show dr = W.drawn + (dr - W.drawn)
    omega

theorem enters_of_callable {P : Program} {f : FuncId} (hc : Callable P f) (args : Array Value) (w : World) : (callFunc f args).run P w = .ok (.enter f args) w := run_callFunc hc args w

variable {P : Program} {ρ : Ren} {α : Type} [Inhabited α]

theorem cmpLays_of {g : Nat} {enc : α → List Value} {k : Nat} {cf : α → α → Int} {blk off size : Nat} {w : World}
    (hrun : ∀ x y h, Run P g [.agg (enc x).toArray, .agg (enc y).toArray] h fun v h' => v = .int .i64 (cf x y) ∧ Keep h h') : CmpLays P g #[] enc k cf blk off size w := by
  intro m os dk _ x y
  refine ((hrun x y _).2 _ rfl).mono ?_
  rintro e w' ⟨v, rfl, ⟨rfl, hk⟩, hs⟩
  exact ⟨rfl, grow_of hk hs⟩

theorem holdsK_of {enc : α → List Value} {k : Nat} {w : World} {blk : Nat} {d : Array α} {l : Array Value} {E : TypeId} (hb : w.heap[blk]? = some (.cells l E (0, 0))) (hk : ∀ x, (enc x).length = k)
    (hl : ∀ i, i < d.size → ∀ j v, (enc d[i]!)[j]? = some v → l[i * k + j]? = some v) : HoldsK enc k w blk 0 d := by
  intro t ht
  have ht' : t < d.size * k := by simpa using ht
  have hk0 : 0 < k := by
    rcases Nat.eq_zero_or_pos k with h | h
    · subst h; simp at ht'
    · exact h
  have hdiv : t / k < d.size := (Nat.div_lt_iff_lt_mul hk0).2 ht'
  have hmod : t % k < k := Nat.mod_lt _ hk0
  rw [get_flatK enc k d t ht']
  refine ⟨?_, hfroz_of (h := w.heap) hb _⟩
  show hcell w.heap ⟨blk, 0 + t, none⟩ = _
  rw [hcell_of hb, Nat.zero_add]
  have := hl (t / k) hdiv (t % k) (enc d[t / k]!)[t % k]! (by rw [getElem!_pos (enc d[t / k]!) (t % k) (by rw [hk]; exact hmod)]; simp [hk, hmod])
  rw [Nat.mul_comm, Nat.div_add_mod] at this
  exact this

/-- SortFunc on an own row (a block's cells from its start), by a comparison that is a strict weak order on what lies there. -/
theorem sortRun (L : SlLaysF0.n6 P ρ) {f : FuncId} (hf : ρ.f 6 = f) (hc : Callable P f) (k : Nat) (aE : ∀ w, (isAgg (ρ.t 24)).run P w = .ok true w) (zE : ∀ w, (Go.sizeOf (ρ.t 24)).run P w = .ok k w) (enc : α → List Value) (hk : ∀ x, (enc x).length = k) (h1 : ∀ x, ∀ v ∈ enc x, single v = true)
    (cf : α → α → Int) (hO : SWO (ltOf cf)) (g : Nat) (hg : Callable P g) (hrun : ∀ x y h, Run P g [.agg (enc x).toArray, .agg (enc y).toArray] h fun v h' => v = .int .i64 (cf x y) ∧ Keep h h')
    {blk cap : Nat} {d : List α} {h : Heap} {l : Array Value} {E : TypeId} (hb : h[blk]? = some (.cells l E (0, 0)))
    (hl : ∀ (i : Nat) (x : α), d[i]? = some x → ∀ j v, (enc x)[j]? = some v → l[i * k + j]? = some v) (hsz : d.length < 4611686018427387904) (hcap : d.length ≤ cap) :
    Run P f [.slice (some ⟨blk, 0, none⟩) d.length cap, .func (.func g) #[] #[]] h fun v h' => v = .tuple #[] ∧ KB [blk] h h' ∧
      ∃ r : List α, r.Perm d ∧ r.Pairwise (fun x y => cf y x < 0 → False) ∧ SlOf enc k h' (some ⟨blk, 0, none⟩) d.length cap r ∧ ∃ l' : Array Value, h'[blk]? = some (.cells l' E (0, 0)) ∧ l'.size = l.size := by
  refine ⟨hc, fun w hw => ?_⟩
  subst hw
  have hH : HoldsK enc k w blk 0 d.toArray := holdsK_of hb hk fun i hi j v hv => by
    have hi' : i < d.length := by simpa using hi
    rw [getElem!_pos d.toArray i hi] at hv
    exact hl i d[i] (by simp [hi']) j v (by simpa using hv)
  have hblk := lt_of_get hb
  have hone : ∀ x, ∀ v ∈ enc x, v.oneCell' = true := fun x v hv => by
    have := h1 x v hv
    cases v <;> simp [single] at this <;> rfl
  have hmain := AnyQ.slices_SortFunc L k aE zE enc hk hone cf hO g #[] blk 0 cap d.toArray w (enters_of_callable hg) (cmpLays_of hrun) hH hblk (by simpa using hsz)
  rw [hf] at hmain
  simp only [List.size_toArray] at hmain
  refine hmain.mono ?_
  rintro e w' ⟨rfl, d', n, os, hp, hs, hw⟩
  obtain ⟨hp1, hp2, hp3⟩ := hp
  simp only [List.size_toArray] at hp1 hp2 hp3
  have hswk : SWK enc k w blk 0 d' w' := ⟨n, os, hw⟩
  have hh := hswk.holds hblk hH (by simpa using hp1)
  refine ⟨_, rfl, ⟨rfl, ⟨hswk.le, fun b hb1 hb2 => ?_⟩, d'.toList, ?_, ?_, ?_, putCells id 0 (flatK enc k d') l, ?_, by simp [putCells]⟩, ?_⟩
  · rw [hw]
    show ((putRow id _ blk 0 _).heap ++ os)[b]? = _
    rw [Array.getElem?_append_left (by rw [size_putRow]; exact hb1)]
    show ((Sort.ahead w n).heap.modify blk _)[b]? = _
    rw [Array.getElem?_modify, if_neg (by simp at hb2; omega)]
    rfl
  · have e1 : d'.extract 0 d.length = d' := by rw [← hp1]; simp
    have e2 : d.toArray.extract 0 d.length = d.toArray := by simp
    rw [e1, e2] at hp3
    simpa using hp3
  · rw [List.pairwise_iff_getElem]
    intro i j hi hj hij
    simp only [Array.length_toList] at hi hj
    have := hs i j (Nat.zero_le _) hij (by omega)
    rw [getElem!_pos d' j hj, getElem!_pos d' i hi] at this
    intro hlt
    simp only [Array.getElem_toList] at hlt
    unfold ltOf at this
    rw [decide_eq_true hlt] at this
    cases this
  · refine ⟨by simpa using hp1, hcap, fun i x hx => ⟨blk, 0, rfl, fun j v hv => ?_⟩⟩
    have hi : i < d'.size := by
      have := (List.getElem?_eq_some_iff.1 hx).1
      simpa using this
    have hx' : d'[i]! = x := by
      rw [getElem!_pos d' i hi]
      simpa [hi] using hx
    have hj : j < k := by have := (List.getElem?_eq_some_iff.1 hv).1; rwa [hk] at this
    have := (HoldsK.cell hh hi hj).1
    rw [hx', getElem!_pos (enc x) j (by rw [hk]; exact hj)] at this
    rw [List.getElem?_eq_getElem (by rw [hk]; exact hj)] at hv
    rw [Option.some.inj hv] at this
    exact this
  · rw [hw]
    show ((putRow id _ blk 0 _).heap ++ os)[blk]? = _
    rw [Array.getElem?_append_left (by rw [size_putRow]; exact hblk)]
    show ((Sort.ahead w n).heap.modify blk _)[blk]? = _
    rw [Array.getElem?_modify, if_pos rfl]
    show (w.heap[blk]?).map _ = _
    rw [hb]; rfl
  · rw [hw]
    exact ⟨rfl, rfl, rfl, Nat.le_add_right _ _⟩
theorem sortRun_none (L : SlLaysF0.n6 P ρ) {f : FuncId} (hf : ρ.f 6 = f) (hc : Callable P f) {p : Option Addr} {cap : Nat} {fv : Value} {h : Heap} : Run P f [.slice p 0 cap, fv] h fun v h' => v = .tuple #[] ∧ h' = h := by
  refine ⟨hc, fun w hw => ?_⟩
  have := AnyF.slices_SortFunc_none L p cap fv w
  rw [hf] at this
  refine this.mono ?_
  rintro e w' ⟨rfl, rfl⟩
  exact ⟨_, rfl, ⟨rfl, hw⟩, .refl _⟩
end Go.Proofs.Ytljgfkiiikcaaaa

/- From the rows' reading of arguments to data: any type of numbers, truth values, strings, structs, arrays and slices. -/
set_option linter.unusedVariables false
namespace Go.Proofs.Ytljgfkiiikcaaaa
open Go Go.Proofs

/-- A row of cells: their kinds. -/
inductive Ds where
  | nil
  | i (k : IntKind) (r : Ds)
  | b (r : Ds)
  | s (r : Ds)
  | l (z : Nat) (e r : Ds)
def contig (P : Program) : List Field → Nat → Nat → Bool
  | [], o, n => o == n
  | f :: fs, o, n => f.offset == o && contig P fs (o + P.cellsOf f.type) n
def dsAll (g : TypeId → Ds → Option Ds) : List TypeId → Ds → Option Ds
  | [], r => some r
  | t :: ts, r => (dsAll g ts r).bind (g t)
def dsOf (P : Program) : Nat → TypeId → Ds → Option Ds
  | 0, _, _ => none
  | n + 1, t, r =>
    match P.underlying t with
    | some .bool => some (.b r)
    | some (.int k) => some (.i k r)
    | some .string => some (.s r)
    | some (.slice e) => if P.cellsOf e = 0 then none else (dsOf P n e .nil).map fun d => .l (P.cellsOf e) d r
    | some (.struct fs) => if contig P fs.toList 0 (P.cellsOf t) then dsAll (dsOf P n) (fs.toList.map (·.type)) r else none
    | some (.array m e) => if P.cellsOf t = m * P.cellsOf e then dsAll (dsOf P n) (List.replicate m e) r else none
    | _ => none
/-- The data is of these kinds. -/
def ShU : Ds → List U → Prop
  | .nil, us => us = []
  | .i k r, us => ∃ n us', us = .i k n :: us' ∧ (Lit.int k n).wf = true ∧ ShU r us'
  | .b r, us => ∃ c us', us = .b c :: us' ∧ ShU r us'
  | .s r, us => ∃ x us', us = .s x :: us' ∧ x.size ≤ maxLen ∧ ShU r us'
  | .l z e r, us => ∃ rows us', us = .l z rows :: us' ∧ rows.length ≤ maxLen ∧ (∀ row ∈ rows, ShU e row) ∧ ShU r us'
theorem RdL.append {D : Fz} {vs ws : List Value} {us xs : List U} (h : RdL D vs us) (k : RdL D ws xs) : RdL D (vs ++ ws) (us ++ xs) := by
  induction h with
  | nil => exact k
  | cons a _ ih => exact .cons a ih
theorem mapM_get {α β : Type} {f : α → Option β} : ∀ {l : List α} {r : List β}, l.mapM f = some r → r.length = l.length ∧ ∀ (i : Nat) (x : α), l[i]? = some x → ∃ y, f x = some y ∧ r[i]? = some y
  | [], r, h => by simp at h; subst h; exact ⟨rfl, by simp⟩
  | x :: l, r, h => by
    rw [List.mapM_cons] at h
    cases hx : f x with
    | none => rw [hx] at h; cases h
    | some y =>
      rw [hx] at h
      cases hl : l.mapM f with
      | none => rw [hl] at h; cases h
      | some ys =>
        rw [hl] at h
        cases h
        obtain ⟨h1, h2⟩ := mapM_get hl
        refine ⟨by simp [h1], fun i z hz => ?_⟩
        cases i with
        | zero => simp at hz; subst hz; exact ⟨y, hx, rfl⟩
        | succ i => simpa using h2 i z (by simpa using hz)

section
variable {H : Type} {enc : TypeId × Value → H} {P : Program} {w : World} {sp : Nat → Bool} {held : Bool}
def allD (h : Heap) : Fz := fun b => h[b]?
/-- What reading a row of types gives. -/
theorem all_rd {R : List Value → List U → Prop} (hR : ∀ {a b us xs}, R a us → R b xs → R (a ++ b) (us ++ xs)) (hR0 : R [] []) {g : TypeId → Ds → Option Ds} {r : TypeId → List Value → Option (DataW H × List MemPlace)}
    (ih : ∀ t cs x d rest, g t rest = some d → r t cs = some x → ∃ us, R cs us ∧ us.length = cs.length ∧ ∀ us', ShU rest us' → ShU d (us ++ us')) :
    ∀ (ts : List TypeId) (css : List (List Value)) (d rest : Ds), dsAll g ts rest = some d → css.length = ts.length → (∀ (i : Nat) (t : TypeId) (cs : List Value), ts[i]? = some t → css[i]? = some cs → ∃ x, r t cs = some x) →
      ∃ us, R css.flatten us ∧ us.length = css.flatten.length ∧ ∀ us', ShU rest us' → ShU d (us ++ us')
  | [], css, d, rest, hd, hl, _ => by
    have : css = [] := List.eq_nil_of_length_eq_zero hl
    subst this
    cases hd
    exact ⟨[], hR0, rfl, fun us' h => h⟩
  | t :: ts, css, d, rest, hd, hl, hx => by
    cases css with
    | nil => simp at hl
    | cons cs css =>
      simp only [dsAll, Option.bind_eq_some_iff] at hd
      obtain ⟨d1, hd1, hd2⟩ := hd
      obtain ⟨us, h1, h2, h3⟩ := all_rd hR hR0 ih ts css d1 rest hd1 (by simpa using hl) fun i t' cs' a b => hx (i + 1) t' cs' (by simpa using a) (by simpa using b)
      obtain ⟨x, hxx⟩ := hx 0 t cs rfl rfl
      obtain ⟨vs, g1, g2, g3⟩ := ih t cs x d d1 hd2 hxx
      exact ⟨vs ++ us, by simpa using hR g1 h1, by simp [g2, h2], fun us' hu => by rw [List.append_assoc]; exact g3 _ (h3 _ hu)⟩
theorem cells_get {a : Addr} {n : Nat} {cs : List Value} (h : w.cells? 0 a n = some cs) : cs.length = n ∧ ∀ j, j < n → w.cell? (a.add j) = cs[j]? := by
  unfold World.cells? at h
  rw [if_pos (Nat.zero_le _)] at h
  obtain ⟨h1, h2⟩ := mapM_get h
  refine ⟨by simpa using h1, fun j hj => ?_⟩
  obtain ⟨y, e1, e2⟩ := h2 j j (by simp [hj])
  rw [e1, e2]
theorem drops {P : Program} {cs : List Value} : ∀ (fs : List Field) (o : Nat), contig P fs o cs.length = true → o ≤ cs.length → (fs.map fun f => (cs.drop f.offset).take (P.cellsOf f.type)).flatten = cs.drop o
  | [], o, h, _ => by simp only [contig, beq_iff_eq] at h; subst h; simp
  | f :: fs, o, h, ho => by
    simp only [contig, Bool.and_eq_true, beq_iff_eq] at h
    obtain ⟨rfl, h2⟩ := h
    have hle : f.offset + P.cellsOf f.type ≤ cs.length := by
      have : ∀ (fs : List Field) (o : Nat), contig P fs o cs.length = true → o ≤ cs.length := by
        intro fs
        induction fs with
        | nil => intro o h; simp only [contig, beq_iff_eq] at h; omega
        | cons f fs ih => intro o h; simp only [contig, Bool.and_eq_true, beq_iff_eq] at h; have := ih _ h.2; omega
      exact this _ _ h2
    rw [List.map_cons, List.flatten_cons, drops fs _ h2 hle, ← List.drop_drop, List.take_append_drop]
theorem drops_arr {cs : List Value} {k : Nat} : ∀ (m o : Nat), cs.length = (o + m) * k → ((List.range m).map fun i => (cs.drop ((o + i) * k)).take k).flatten = cs.drop (o * k)
  | 0, o, h => by simp [h]
  | m + 1, o, h => by
    rw [List.range_succ_eq_map, List.map_cons, List.flatten_cons, List.map_map]
    have h1 := drops_arr (cs := cs) (k := k) m (o + 1) (by rw [h]; congr 1; omega)
    have : ((List.range m).map ((fun i => (cs.drop ((o + i) * k)).take k) ∘ Nat.succ)) = (List.range m).map fun i => (cs.drop ((o + 1 + i) * k)).take k := List.map_congr_left fun i _ => by simp only [Function.comp, Nat.succ_eq_add_one]; rw [show o + (i + 1) = o + 1 + i by omega]
    rw [this, h1, Nat.add_zero, show (o + 1) * k = o * k + k by rw [Nat.succ_mul], ← List.drop_drop, List.take_append_drop]
set_option maxRecDepth 10000 in
theorem trod_rd : ∀ (m n : Nat) (t : TypeId) (cs : List Value) (x : DataW H × List MemPlace) (d rest : Ds), dsOf P m t rest = some d → DataW.trod enc P w 0 sp held n t cs = some x →
    ∃ us, RdL (allD w.heap) cs us ∧ us.length = cs.length ∧ ∀ us', ShU rest us' → ShU d (us ++ us')
  | 0, n, t, cs, x, d, rest, hd, hx => by cases hd
  | m + 1, 0, t, cs, x, d, rest, hd, hx => by cases hx
  | m + 1, n + 1, t, cs, x, d, rest, hd, hx => by
    have ih := trod_rd m n
    rw [DataW.trod_step] at hx
    unfold dsOf at hd
    cases hu : P.underlying t with
    | none => rw [hu] at hd; cases hd
    | some td =>
      rw [hu] at hd
      cases td with
      | bool =>
        cases hd
        unfold DataW.trodStep at hx
        rw [hu] at hx
        split at hx <;> simp_all
        exact ⟨[.b _], .cons (.bool _) .nil, rfl, fun us' h => ⟨_, us', rfl, h⟩⟩
      | int k =>
        cases hd
        unfold DataW.trodStep at hx
        rw [hu] at hx
        split at hx <;> simp_all
        rename_i k' nn e1
        obtain ⟨⟨rfl, hw⟩, -⟩ := hx
        exact ⟨[.i k' nn], .cons (.int _ _) .nil, rfl, fun us' h => ⟨nn, us', rfl, hw, h⟩⟩
      | string =>
        cases hd
        unfold DataW.trodStep at hx
        rw [hu] at hx
        split at hx <;> simp_all
        exact ⟨[.s _], .cons (.str _) .nil, rfl, fun us' h => ⟨_, us', rfl, hx.1, h⟩⟩
      | slice e =>
        simp only at hd
        split at hd
        · cases hd
        rename_i hce
        simp only [Option.map_eq_some_iff] at hd
        obtain ⟨de, hde, rfl⟩ := hd
        rw [← DataW.trod_step] at hx
        rcases Go.Deep.open_slice hu hx with ⟨rfl, -⟩ | ⟨a, len, cap, mm, n', DD, Pl, rfl, hb, hl, hm, hmm, -, hel⟩
        · exact ⟨[.l (P.cellsOf e) []], .cons (.nil _ _ _) .nil, rfl, fun us' h => ⟨[], us', rfl, by simp, by simp, h⟩⟩
        have hlm : len ≤ mm := by rw [hmm]; split <;> omega
        by_cases h0 : len = 0
        · subst h0
          exact ⟨[.l (P.cellsOf e) []], .cons (.nil _ _ _) .nil, rfl, fun us' h => ⟨[], us', rfl, by simp, by simp, h⟩⟩
        have each : ∀ i, ∃ q : List Value × List U, i < len → w.cells? 0 (a.add (i * P.cellsOf e)) (P.cellsOf e) = some q.1 ∧ RdL (allD w.heap) q.1 q.2 ∧ q.2.length = q.1.length ∧ ShU de q.2 := by
          intro i
          by_cases hi : i < len
          · obtain ⟨cs', h1, h2⟩ := hel i (by omega)
            obtain ⟨us, g1, g2, g3⟩ := trod_rd m n' e cs' _ de .nil hde h2
            exact ⟨(cs', us), fun _ => ⟨h1, g1, g2, by simpa using g3 [] rfl⟩⟩
          · exact ⟨([], []), fun h => absurd h hi⟩
        have each' : ∀ i, ∃ q : List Value × List U, i < len → w.cells? 0 (a.add (i * P.cellsOf e)) (P.cellsOf e) = some q.1 ∧ RdL (allD w.heap) q.1 q.2 ∧ q.2.length = q.1.length ∧ ShU de q.2 := each
        let Q : Nat → List Value × List U := fun i => Classical.choose (each' i)
        have hQ : ∀ i, i < len → w.cells? 0 (a.add (i * P.cellsOf e)) (P.cellsOf e) = some (Q i).1 ∧ RdL (allD w.heap) (Q i).1 (Q i).2 ∧ (Q i).2.length = (Q i).1.length ∧ ShU de (Q i).2 := fun i => Classical.choose_spec (each' i)
        obtain ⟨b, o, spot⟩ := a
        have hc0 : ∀ i j, i < len → j < P.cellsOf e → w.cell? (((⟨b, o, spot⟩ : Addr).add (i * P.cellsOf e)).add j) = (Q i).1[j]? ∧ j < (Q i).1.length := fun i j hi hj => by
          obtain ⟨h1, h2⟩ := cells_get (hQ i hi).1
          exact ⟨h2 j hj, by omega⟩
        have hsp : spot = none := by
          cases spot with
          | none => rfl
          | some z =>
            exfalso
            obtain ⟨h1, h2⟩ := hc0 0 0 (by omega) (by omega)
            rw [List.getElem?_eq_getElem h2] at h1
            have : w.cell? ⟨b, o, some z⟩ = some ((Q 0).1[0]) := by simpa [Addr.add] using h1
            unfold World.cell? at this
            split at this
            · simp at this
            · cases this
        subst hsp
        have hcell : ∀ i j, i < len → j < P.cellsOf e → hcell w.heap ⟨b, o + i * P.cellsOf e + j, none⟩ = (Q i).1[j]? := fun i j hi hj => by
          have h1 := (hc0 i j hi hj).1
          rw [add_plain, add_plain] at h1
          exact h1
        have hblk : ∃ arr T f, w.heap[b]? = some (.cells arr T f) := by
          have h1 := hcell 0 0 (by omega) (by omega)
          rw [List.getElem?_eq_getElem (hc0 0 0 (by omega) (by omega)).2] at h1
          unfold Go.Proofs.Ytljgfkiiikcaaaa.hcell at h1
          cases hbb : w.heap[b]? with
          | none => simp [hbb] at h1
          | some ob =>
            cases ob <;> simp [hbb] at h1
            exact ⟨_, _, _, rfl⟩
        obtain ⟨arr, T, f, hbk⟩ := hblk
        have hlen : ((List.range len).map fun i => (Q i).2).length = len := by simp
        have hrow : ∀ {i : Nat} {r : List U}, ((List.range len).map fun i => (Q i).2)[i]? = some r → i < len ∧ r = (Q i).2 := fun {i r} hr => by
          rw [List.getElem?_map] at hr
          cases hri : (List.range len)[i]? with
          | none => rw [hri] at hr; cases hr
          | some k =>
            rw [hri] at hr
            obtain ⟨h1, h2⟩ := List.getElem?_eq_some_iff.1 hri
            simp at h1 h2 hr
            subst h2
            exact ⟨h1, hr.symm⟩
        have hr : Rd (allD w.heap) (.slice (some ⟨b, o, none⟩) len cap) (.l (P.cellsOf e) ((List.range len).map fun i => (Q i).2)) := by
          have := Rd.row (D := allD w.heap) b o cap arr T f ((List.range len).map fun i => (Q i).2) (P.cellsOf e) (fun i j => (Q i).1.getD j undef) hbk (by rw [hlen]; exact hl)
            (fun r hr => by
              obtain ⟨i, hi, rfl⟩ := List.mem_map.1 hr
              have hi' : i < len := by simpa using hi
              rw [(hQ i hi').2.2.1, (cells_get (hQ i hi').1).1])
            (fun i j r u hi hj => by
              obtain ⟨h1, rfl⟩ := hrow hi
              have hj' : j < P.cellsOf e := by
                have := (List.getElem?_eq_some_iff.1 hj).1
                rwa [(hQ i h1).2.2.1, (cells_get (hQ i h1).1).1] at this
              have := hcell i j h1 hj'
              rw [hcell_of hbk] at this
              rw [this]
              simp [(hc0 i j h1 hj').2])
            (fun i j r u hi hj => by
              obtain ⟨h1, rfl⟩ := hrow hi
              obtain ⟨v, hv, hrd⟩ := (hQ i h1).2.1.get hj
              simp only [List.getD_eq_getElem?_getD, hv, Option.getD_some]; exact hrd)
          rwa [hlen] at this
        refine ⟨[.l (P.cellsOf e) _], .cons hr .nil, rfl, fun us' h => ⟨_, us', rfl, by rw [hlen]; omega, fun row hrow' => ?_, h⟩⟩
        obtain ⟨i, hi, rfl⟩ := List.mem_map.1 hrow'
        exact (hQ i (by simpa using hi)).2.2.2
      | struct fs =>
        simp only at hd
        split at hd
        · rename_i hct
          unfold DataW.trodStep at hx
          rw [hu] at hx
          simp only at hx
          split at hx
          · rename_i hl
            simp only [Option.map_eq_some_iff] at hx
            obtain ⟨xs, hxs, -⟩ := hx
            obtain ⟨h1, h2⟩ := mapM_get hxs
            rw [← hl] at hct
            have hfl := drops fs.toList 0 hct (Nat.zero_le _)
            rw [List.drop_zero] at hfl
            have := all_rd (R := RdL (allD w.heap)) (fun a b => a.append b) .nil (g := dsOf P m) (r := DataW.trod enc P w 0 sp held n) (fun t cs x d rest a b => ih t cs x d rest a b) (fs.toList.map (·.type)) (fs.toList.map fun f => (cs.drop f.offset).take (P.cellsOf f.type)) d rest hd (by simp) fun i t' cs' a b => by
              rw [List.getElem?_map] at a b
              cases hf : fs.toList[i]? with
              | none => rw [hf] at a; cases a
              | some f =>
                rw [hf] at a b
                cases a; cases b
                obtain ⟨y, hy, -⟩ := h2 i f hf
                exact ⟨y, hy⟩
            rw [hfl] at this
            exact this
          · cases hx
        · cases hd
      | array k e =>
        simp only at hd
        split at hd
        · rename_i hct
          unfold DataW.trodStep at hx
          rw [hu] at hx
          simp only at hx
          split at hx
          · rename_i hl
            simp only [Option.map_eq_some_iff] at hx
            obtain ⟨xs, hxs, -⟩ := hx
            obtain ⟨h1, h2⟩ := mapM_get hxs
            rw [hct] at hl
            have hfl := drops_arr (cs := cs) (k := P.cellsOf e) k 0 (by rw [hl, Nat.zero_add])
            rw [Nat.zero_mul, List.drop_zero] at hfl
            simp only [Nat.zero_add] at hfl
            have := all_rd (R := RdL (allD w.heap)) (fun a b => a.append b) .nil (g := dsOf P m) (r := DataW.trod enc P w 0 sp held n) (fun t cs x d rest a b => ih t cs x d rest a b) (List.replicate k e) ((List.range k).map fun i => (cs.drop (i * P.cellsOf e)).take (P.cellsOf e)) d rest hd (by simp) fun i t' cs' a b => by
              rw [List.getElem?_map] at b
              obtain ⟨a1, a2⟩ := List.getElem?_eq_some_iff.1 a
              simp at a1 a2
              subst a2
              rw [List.getElem?_range a1] at b
              cases b
              obtain ⟨y, hy, -⟩ := h2 i i (by simp [a1])
              exact ⟨y, hy⟩
            rw [hfl] at this
            exact this
          · cases hx
        · cases hd
      | _ => cases hd
end
theorem rows_of {α : Type} {e : α → List U} {Q : α → Prop} {d : Ds} (hc : ∀ r, ShU d r → ∃ x, r = e x ∧ Q x) {rows : List (List U)} (h : ∀ r ∈ rows, ShU d r) : ∃ l : List α, rows = l.map e ∧ ∀ x ∈ l, Q x := by
  induction rows with
  | nil => exact ⟨[], rfl, by simp⟩
  | cons r rows ih =>
    obtain ⟨l, rfl, hl⟩ := ih fun r hr => h r (by simp [hr])
    obtain ⟨x, rfl, hx⟩ := hc r (h r (by simp))
    exact ⟨x :: l, rfl, fun y hy => by rcases List.mem_cons.1 hy with rfl | hy; exact hx; exact hl y hy⟩
section
variable {H : Type} {enc : TypeId × Value → H} {P : Program} {W : World} {sp : Nat → Bool} {held : Bool}
theorem open_data {t : TypeId} {ds : Ds} {v : Value} {d : DataW H} {ps : List MemPlace} (hd : dsOf P 12 t .nil = some ds) (h : DataW.Trod enc P W 0 sp held t v d ps) : ∃ us, RdL (allD W.heap) v.cells.toList us ∧ ShU ds us := by
  obtain ⟨fuel, hf⟩ := h
  obtain ⟨us, h1, -, h3⟩ := trod_rd 12 fuel t _ _ ds .nil hd hf
  exact ⟨us, h1, by simpa using h3 [] rfl⟩
end
def in64 (x : Int) : Prop := -9223372036854775808 ≤ x ∧ x ≤ 9223372036854775807
theorem in64_of {n : Int} (h : (Lit.int .i64 n).wf = true) : in64 n := by
  have h1 : IntKind.min .i64 = -9223372036854775808 := by decide
  have h2 : IntKind.max .i64 = 9223372036854775807 := by decide
  simp only [Lit.wf, h1, h2, Bool.and_eq_true, decide_eq_true_eq] at h
  exact h
theorem St.all (h : Heap) : St (allD h) [] h := ⟨by simp [ids], by simp, fun b o hb => ⟨hb, by simp [ids]⟩⟩
theorem St.kept {h h' : Heap} {C : List Chunk} {D : Fz} (l : Le (allD h) D) (S : St D C h') : Keep h h' where
  size := by
    rcases Nat.lt_or_ge h'.size h.size with hlt | hge
    · exfalso
      have h1 := (S.fz h'.size _ (l _ _ (show allD h h'.size = some h[h'.size] by simp [allD, hlt]))).1
      have := lt_of_get h1; omega
    · exact hge
  blk b hb _ := by
    have h1 := (S.fz b _ (l _ _ (show allD h b = some h[b] by simp [allD, hb]))).1
    rw [h1]; simp [hb]
end Go.Proofs.Ytljgfkiiikcaaaa

/- The engine, part p: from the walk to the fenced walk; marks; small facts of ranges over functions. -/
set_option linter.unusedVariables false
namespace Go.Proofs.Ytljgfkiiikcaaaa
open Go
abbrev FW (r : Option Nat) : Fence := { Fence.wide with round := r }
def isDefer (o : Oper) : Bool := match o.op with | .defer _ => true | _ => false
def exitsOf : Code → List Ex
  | .ret => [.ret]
  | .exit i => [.ext i]
  | .seq x y => exitsOf x ++ exitsOf y
  | .cond _ x y => exitsOf x ++ exitsOf y
  | .block i c => (exitsOf c).filter fun e => match e with | .ext j => !Nat.beq i j | _ => true
  | .loop c => exitsOf c
  | .scope c => exitsOf c
  | _ => []
def codeEx : Ex → Code
  | .ret => .ret
  | .ext i => .exit i
  | .nrm => .skip
section
variable {P : Program}
theorem callsIn_of {r : Option Nat} {n : Nat} {f : FuncId} {args : Array Value} {w : World} {R : Ending → World → Prop} (h : Calls P f args w R) : CallsIn (FW r) n P f args w R :=
  (callsIn_wide (n := n)).2 h
theorem rowsIn_of {r : Option Nat} {n : Nat} {row : String} {args : Array Value} {w : World} {R : Value → World → Prop} (h : Rows P row args w R) : RowsIn (FW r) n P row args w R :=
  fun c cs _ => let ⟨v, w', hR, hs⟩ := h c cs; ⟨v, w', hR, stepsIn_wide.2 hs⟩
def Dm (ds : List Deferred) (K : Act → World → Prop) : Act → World → Prop := fun a w => ∃ a0, K a0 w ∧ a = { a0 with defers := a0.defers ++ ds }
def DmQ (ds : List Deferred) (Q : Exit → Act → World → Prop) : Exit → Act → World → Prop := fun e a w => ∃ a0, Q e a0 w ∧ a = { a0 with defers := a0.defers ++ ds }
theorem put_dm (a : Act) (ds : List Deferred) (d : Option Tmp) (v : Value) : ({ a with defers := a.defers ++ ds } : Act).put d v = { a.put d v with defers := (a.put d v).defers ++ ds } := by
  cases d <;> rfl
theorem op_in {o : Oper} {a : Act} {w : World} {K : Act → World → Prop} {Q : Exit → Act → World → Prop} {r : Option Nat} {n : Nat} {ds : List Deferred} (hd : isDefer o = false) (hQ : ¬ LetsOut Q) (h : o.wp P a w K Q) :
    o.wpIn (FW r) n P { a with defers := a.defers ++ ds } w (Dm ds K) (DmQ ds Q) := by
  have hd' : ∀ c, o.op ≠ .defer c := fun c e => by unfold isDefer at hd; rw [e] at hd; cases hd
  refine ⟨fun _ _ => trivial, ?_⟩
  rw [Oper.semAt_eq _ _ _ hd']
  have he : ({ a with defers := a.defers ++ ds } : Act).eval = a.eval := by funext x; cases x <;> rfl
  rw [he]
  unfold Oper.wp at h
  generalize hres : (execOp a.eval o).run P w = res at h ⊢
  cases res with
  | ok nx w' =>
    cases nx <;> simp only [Oper.upon, Oper.uponIn] at h ⊢ <;> try exact h.elim
    case value v => exact ⟨_, h, put_dm _ _ _ _⟩
    case skip => exact ⟨_, h, put_dm _ _ _ _⟩
    case enter f args =>
      refine ⟨fun hh => (by cases hh), callsIn_of (h.mono fun e w'' he => ?_)⟩
      cases e with
      | returned v => exact ⟨_, he, put_dm _ _ _ _⟩
      | panicked c => exact ⟨_, he, rfl⟩
      | outgrown => exact absurd he hQ
    case row row args => exact ⟨fun hh => (by cases hh), rowsIn_of (Rows.mono h fun v w'' he => ⟨_, he, put_dm _ _ _ _⟩)⟩
    case defer d => exact ⟨_, h, put_dm { a with defers := d :: a.defers } ds _ _⟩
  | halt x w' =>
    cases x <;> simp only [Oper.upon, Oper.uponIn] at h ⊢ <;> try exact h.elim
    case panic v => exact ⟨_, h, rfl⟩
theorem any_in {ops : Array Oper} {Q : Exit → Act → World → Prop} {r : Option Nat} {n : Nat} {ds : List Deferred} (hd : ∀ o ∈ ops.toList, isDefer o = false) (hQ : ¬ LetsOut Q) : ∀ (fuel : Nat) (listed : Array Bool) (a : Act) (w : World),
    wpAny P .any ops Q fuel listed a w → wpAnyIn (FW r) n P .any ops (DmQ ds Q) fuel listed { a with defers := a.defers ++ ds } w
  | 0, listed, a, w, h => ⟨h.1, _, h.2, rfl⟩
  | fuel + 1, listed, a, w, h => by
    refine ⟨fun hr => ⟨_, h.1 hr, rfl⟩, fun i hi => ?_⟩
    have h1 := h.2 i hi
    unfold wpOp at h1
    unfold wpOpIn
    cases ho : ops[i]? with
    | none => rw [ho] at h1; exact any_in hd hQ fuel _ a w h1
    | some o =>
      rw [ho] at h1
      simp only at h1 ⊢
      split
      · rename_i hw
        rw [if_pos hw] at h1
        have hom : o ∈ ops.toList := by simpa using Array.mem_of_getElem? ho
        rcases h1 with h1 | ⟨-, h1⟩
        · refine Oper.wpIn_mono (fun a' w' hh => ?_) (op_in (ds := ds) (hd o hom) hQ h1)
          obtain ⟨a0, h2, rfl⟩ := hh
          exact any_in hd hQ fuel _ a0 w' h2
        · exact absurd h1 hQ
      · rename_i hw
        rw [if_neg hw] at h1
        refine ⟨fun _ _ => trivial, ?_⟩
        rw [put_dm]
        exact any_in hd hQ fuel _ _ w h1
theorem opq_mono {Qa Qb : Exit → Act → World → Prop} {r : Option Nat} {n : Nat} (hq : ∀ e a w, Qa e a w → Qb e a w) {o : Oper} {a1 : Act} {w1 : World} {K : Act → World → Prop} (h : o.wpIn (FW r) n P a1 w1 K Qa) : o.wpIn (FW r) n P a1 w1 K Qb := by
  refine ⟨h.1, ?_⟩
  have h4 := h.2
  generalize (Oper.semAt (FW r).round a1.eval o).run P w1 = res at h4 ⊢
  cases res with
  | ok nx w' =>
    cases nx <;> simp only [Oper.uponIn] at h4 ⊢ <;> try exact h4
    case enter f args =>
      refine ⟨h4.1, h4.2.mono fun e w'' he => ?_⟩
      cases e with
      | returned v => exact he
      | panicked c => exact hq _ _ _ he
      | outgrown => obtain ⟨a2, w2, h⟩ := he; exact ⟨a2, w2, hq _ _ _ h⟩
    case round l f tmps assign body =>
      refine ⟨h4.1, RoundIn.mono h4.2 fun e w'' he => ?_⟩
      cases e with
      | returned v => exact he
      | panicked c => exact hq _ _ _ he
      | outgrown => obtain ⟨a2, w2, h⟩ := he; exact ⟨a2, w2, hq _ _ _ h⟩
  | halt x w' =>
    cases x <;> simp only [Oper.uponIn] at h4 ⊢ <;> try exact h4
    case panic v => exact hq _ _ _ h4
theorem anyq_mono {Qa Qb : Exit → Act → World → Prop} {r : Option Nat} {n : Nat} {ops : Array Oper} (hq : ∀ e a w, Qa e a w → Qb e a w) : ∀ (fuel : Nat) (listed : Array Bool) (a1 : Act) (w1 : World), wpAnyIn (FW r) n P .any ops Qa fuel listed a1 w1 → wpAnyIn (FW r) n P .any ops Qb fuel listed a1 w1 := by
  intro fuel
  induction fuel with
  | zero => intro listed a1 w1 h; exact ⟨h.1, hq _ _ _ h.2⟩
  | succ fuel ih =>
    intro listed a1 w1 h
    refine ⟨fun hr => hq _ _ _ (h.1 hr), fun i hi => ?_⟩
    have := h.2 i hi
    unfold wpOpIn at this ⊢
    split
    · rename_i ho; rw [ho] at this; exact ih _ _ _ this
    · rename_i o ho
      rw [ho] at this
      simp only at this
      split
      · rename_i hw; rw [if_pos hw] at this; exact Oper.wpIn_mono (fun a' w' hh => ih _ _ _ hh) (opq_mono hq this)
      · rename_i hw; rw [if_neg hw] at this; exact ⟨this.1, ih _ _ _ this.2⟩
/-- An operation of the plain walk, that only goes on. -/
theorem op_in0 {o : Oper} {a : Act} {w : World} {K : Act → World → Prop} {Q : Exit → Act → World → Prop} {r : Option Nat} {n : Nat} (hd : isDefer o = false) (h : o.wp P a w K (fun _ _ _ => False)) : o.wpIn (FW r) n P a w K Q := by
  have h2 := op_in (r := r) (n := n) (ds := []) hd (fun ⟨_, _, h⟩ => h) h
  rw [List.append_nil] at h2
  exact Oper.wpIn_mono (fun a' w' hh => by
    obtain ⟨a0, hK, rfl⟩ := hh
    rw [List.append_nil]; exact hK) (opq_mono (fun e a w hq => by obtain ⟨_, h, _⟩ := hq; exact h.elim) h2)
theorem eval_dm (a : Act) (ds : List Deferred) : ({ a with defers := ds } : Act).eval = a.eval := by funext x; cases x <;> rfl
theorem eval_evI (a : Act) : a.eval = ev a.tmps.toList := eval_eq a
def mark (D : Nat) : Deferred := { target := .collected D, args := #[] }
theorem stepR_scope' {b : Frame} {a : Act} {k : List Item} {cs : List Frame} {w : World} {c : Code} : step P (lone (b.atR a (.code (.scope c) :: k)) cs w) = .next (lone (b.atR a (.code c :: .inScope c :: k)) cs w) :=
  step_lone_go (by simp [stepG, stepG.exec, Frame.atR])
theorem stepR_inScope' {b : Frame} {a : Act} {k : List Item} {cs : List Frame} {w : World} {c : Code} : step P (lone (b.atR a (.inScope c :: k)) cs w) = .next (lone (b.atR a k) cs w) :=
  step_lone_go (by simp [stepG, stepG.exec, Frame.atR])
theorem wpIn_scope {F : Fence} {n : Nat} {c : Code} {Q : Exit → Act → World → Prop} {a : Act} {w : World} (h : c.wpIn F n P (Exit.noGoto Q) a w) : (Code.scope c).wpIn F n P Q a w := by
  intro b k cs hro hb hr
  have h0 : (lone (b.atR a (.code (.scope c) :: k)) cs w).fenced P F := fenced_calm hb hr rfl
  obtain ⟨e, a₁, w₁, hq, harr⟩ := h b (.inScope c :: k) cs hro hb hr
  cases e with
  | normal => exact ⟨.normal, a₁, w₁, hq, .head h0 stepR_scope' (StepsIn.trans harr (.one (fenced_calm hb hr rfl) stepR_inScope'))⟩
  | exit id' =>
    have hx : exitTo id' (.inScope c :: k) = exitTo id' k := by simp [exitTo]
    exact ⟨.exit id', a₁, w₁, hq, fun k' hk => .head h0 stepR_scope' (harr.1 k' (by rw [hx]; exact hk)),
      fun hr' hk => let ⟨k₁, h1, h2⟩ := harr.2 hr' (by rw [hx]; exact hk); ⟨k₁, h1, .head h0 stepR_scope' h2⟩⟩
  | goto l => exact hq.elim
  | ret => exact ⟨_, a₁, w₁, hq, .of_steps (.one h0 stepR_scope') harr⟩
  | panic ch => exact ⟨_, a₁, w₁, hq, .of_steps (.one h0 stepR_scope') harr⟩
  | outgrown => exact ⟨_, a₁, w₁, hq, .of_steps (.one h0 stepR_scope') harr⟩

theorem lset_set : ∀ (l : List Value) (n : Nat) (v : Value), lset l n v = l.set n v
  | [], _, _ => rfl
  | _ :: _, 0, _ => rfl
  | x :: l, n + 1, v => by simp only [lset, List.set_cons_succ, lset_set l n v]
theorem setAll_fold : ∀ (ps : List Tmp) (as' : List Value) (t : Array Value), ((ps.zip as').foldl (fun (tmps : Array Value) (x : Tmp × Value) => tmps.setIfInBounds x.1 x.2) t).toList = setAll t.toList ps as'
  | [], as', t => by cases as' <;> rfl
  | p :: ps, [], t => by simp [setAll]
  | p :: ps, v :: as', t => by
    rw [List.zip_cons_cons, List.foldl_cons, setAll_fold ps as']
    simp only [setAll, lset_set, Array.toList_setIfInBounds]
theorem exitsOf_not (c : Code) : Ex.nrm ∉ exitsOf c := by
  induction c <;> simp_all [exitsOf]
theorem Same.put (w : World) (r : Nat) (o : Obj) : Same w (w.putObj r o) := ⟨rfl, rfl, rfl, Nat.le_refl _⟩
theorem Same.alloc (w : World) (o : Obj) : Same w (w.alloc o) := ⟨rfl, rfl, rfl, Nat.le_refl _⟩
end
end Go.Proofs.Ytljgfkiiikcaaaa

/- The symbolic engine, part b: what abstract values stand for; calls; code. -/
set_option linter.unusedVariables false
namespace Go.Proofs.Ytljgfkiiikcaaaa
open Go

/- ## What values stand for -/
structure Loc where
  b : Nat
  a : Option Addr
  n : Nat
  c : Nat
mutual
inductive Rp (D : Fz) (ρ : List Loc) : Value → V → Prop
  | u {v : Value} {x : U} : Rd D v x → Rp D ρ v (.u x)
  | r {b o : Nat} {L : Loc} : ρ[b]? = some L → Rp D ρ (.pointer (some ⟨L.b, o, none⟩)) (.r b o)
  | e {b sz o p q : Nat} {k : Int} {L : Loc} : ρ[b]? = some L → L.a = some ⟨p, q, none⟩ → 0 ≤ k → k < L.n → Rp D ρ (.pointer (some ⟨p, q + k.toNat * sz + o, none⟩)) (.e b sz k o)
  | g {b o w : Nat} {k : Int} {L : Loc} : ρ[b]? = some L → 0 ≤ k → k < w → Rp D ρ (.pointer (some ⟨L.b, o + k.toNat, none⟩)) (.g b o w k)
  | q {c : List U} {p o o' : Nat} : Rd D (.pointer (some ⟨p, o, none⟩)) (.p (some c)) → o' = o → ∀ n, Rp D ρ (.pointer (some ⟨p, o' + n, none⟩)) (.q c n)
  | w {b : Nat} {L : Loc} : ρ[b]? = some L → Rp D ρ (.slice L.a L.n L.c) (.w b)
  | c {a : Option Addr} {n sz : Nat} {rows : List (List U)} : Rd D (.slice a n n) (.l sz rows) → Rp D ρ (.slice a n n) (.c sz rows)
  | m {b : Nat} {L : Loc} : ρ[b]? = some L → Rp D ρ (.map (some L.b)) (.m b)
  | nm : Rp D ρ (.map none) .nm
  | nl {s : Nat} : Rp D ρ (.slice none 0 0) (.nl s)
  | f {g : FuncId} {xs ys : List Value} {a c : List V} : RpL D ρ xs a → RpL D ρ ys c → Rp D ρ (.func (.func g) xs.toArray ys.toArray) (.f g a c)
  | a {vs : List Value} {l : List V} : RpC D ρ vs l → Rp D ρ (.agg vs.toArray) (.a l)
  | t {vs : List Value} {l : List V} : RpL D ρ vs l → Rp D ρ (.tuple vs.toArray) (.t l)
  | z {v : Value} : Rp D ρ v .z
  | y {b : Nat} {L : Loc} : ρ[b]? = some L → Rp D ρ (.func (.yield L.b) #[] #[]) (.y b)
inductive RpL (D : Fz) (ρ : List Loc) : List Value → List V → Prop
  | nil : RpL D ρ [] []
  | cons {v : Value} {x : V} {vs : List Value} {xs : List V} : Rp D ρ v x → RpL D ρ vs xs → RpL D ρ (v :: vs) (x :: xs)
/-- Cells: a row of numbers may be one. -/
inductive RpC (D : Fz) (ρ : List Loc) : List Value → List V → Prop
  | nil : RpC D ρ [] []
  | cons {v : Value} {x : V} {vs : List Value} {xs : List V} : Rp D ρ v x → (∀ k w l, x ≠ .n k w l) → RpC D ρ vs xs → RpC D ρ (v :: vs) (x :: xs)
  | n {k : IntKind} {w : Nat} {l : List Int} {vs : List Value} {xs : List V} : l.length = w → RpC D ρ vs xs → RpC D ρ (l.map (.int k) ++ vs) (.n k w l :: xs)
end
/-- A block of memory. -/
inductive Ent (D : Fz) (ρ : List Loc) (L : Loc) : AB → Chunk → Prop
  | c {arr : List Value} {T : TypeId} {l : List V} : RpC D ρ arr l → Ent D ρ L (.c l) [(L.b, .cells arr.toArray T (0, 0))]
  | w {E sz : Nat} {rows : List (List U)} {ch : Chunk} : Own D E sz L.a L.c rows ch → L.n = rows.length → Ent D ρ L (.w E sz rows) ch
  | o {I : Ob} {ch : Chunk} : I.f D L.b ch → Ent D ρ L (.o I) ch
  | x : Ent D ρ L .x []
structure SAt (D : Fz) (ρ : List Loc) (m : Mem) (chs C : List Chunk) (h : Heap) : Prop where
  len : ρ.length = m.length
  lch : chs.length = m.length
  ent : ∀ (i : Nat) (L : Loc) (ab : AB) (ch : Chunk), ρ[i]? = some L → m[i]? = some ab → chs[i]? = some ch → Ent D ρ L ab ch
  st : St D (chs ++ C) h
/-- A run, said of what the values stand for. -/
def PRun (P : Program) (g : FuncId) (m : Mem) (args : List V) (Q : V → Mem → Prop) : Prop :=
  ∀ (D : Fz) (ρ : List Loc) (chs C : List Chunk) (h : Heap) (vs : List Value), SAt D ρ m chs C h → RpL D ρ vs args →
    Run P g vs h fun v h' => ∃ (D' : Fz) (ρ' : List Loc) (chs' : List Chunk) (x : V) (m' : Mem), Le D D' ∧ SAt D' (ρ ++ ρ') m' chs' C h' ∧ Rp D' (ρ ++ ρ') v x ∧ Q x m'

/- ## Calls -/
abbrev RP.I : RP := .one (.i .i64)
abbrev RP.B : RP := .one .b
abbrev RP.S : RP := .one .s
abbrev RP.L (s : Nat) : RP := .one (.l s)
def patZ : Value × Nat → Pt
  | (.int k _, _) => .i k
  | (.bool _, _) => .b
  | (.string _, _) => .s
  | (.slice .., s) => .l s
  | (.pointer _, _) => .p
  | _ => .z
def patT (P : Program) (T : TypeId) : RP :=
  match layS P T with
  | some (.one z) => .one (patZ z)
  | some (.many zs) => .agg (zs.map patZ)
  | none => .one .z
def patC (m : Mem) : V → Pt
  | .u (.i k _) => .i k
  | .u (.b _) => .b
  | .u (.s _) => .s
  | .u (.l s _) => .l s
  | .u (.p _) => .p
  | .q _ 0 => .p
  | .c s _ => .l s
  | .nl s => .l s
  | .n _ w _ => .n w
  | .w j => match mg m j with
    | .w E sz _ => .ow E sz
    | _ => .z
  | .r j o => .r j o
  | .m j => .m j
  | .nm => .nm
  | _ => .z
def patA (m : Mem) (own : Bool) : AB → BP
  | .o _ => .A
  | .x => .X
  | .w E sz _ => cond own (.row E sz) .X
  | .c l => .c (l.map (patC m))
def normL (P : Program) : List TypeId → List V → List V
  | T :: Ts, v :: l => datV (normV P T v) :: normL P Ts l
  | _, l => l
def frzV (ro : List Nat) (m : Mem) : V → Option (V × Mem)
  | .w b => match toU ro m (.w b) with
    | some (u, m1) => some (.u u, m1)
    | none => none
  | .a l => match frzC m l with
    | some (l', m1) => some (.a l', m1)
    | none => none
  | v => some (v, m)
where frzC : Mem → List V → Option (List V × Mem)
  | m, [] => some ([], m)
  | m, .w b :: l => match toU ro m (.w b) with
    | some (u, m1) => match frzC m1 l with
      | some (l', m2) => some (.u u :: l', m2)
      | none => none
    | none => none
  | m, v :: l => match frzC m l with
    | some (l', m2) => some (v :: l', m2)
    | none => none
def frzL (ro : List Nat) : Mem → List V → Option (List V × Mem)
  | m, [] => some ([], m)
  | m, v :: l => match frzV ro m v with
    | some (v', m1) => match frzL ro m1 l with
      | some (l', m2) => some (v' :: l', m2)
      | none => none
    | none => none
def posL : List Nat → Nat → Nat → Nat
  | [], _, k => k
  | x :: l, b, k => cond (Nat.beq x b) k (posL l b (k + 1))
def nthN : List Nat → Nat → Nat
  | [], _ => 0
  | x :: _, 0 => x
  | _ :: l, n + 1 => nthN l n
def oneV : List V → V
  | [v] => v
  | l => .t l
def roEq (ro : List Nat) (m m' : Mem) : List Nat → Prop → Prop
  | [], K => K
  | b :: ix, K => cond (inL ro b) (mg m' b = mg m b ∧ roEq ro m m' ix K) (roEq ro m m' ix K)
/-- The results one by one. -/
def resX (rs : List RP) (x : V) : List V :=
  match rs, x with
  | [_], x => [x]
  | _, .t l => l
  | _, x => [x]
def oneR (rs : List RP) (xs : List V) : V :=
  match rs with
  | [_] => oneV xs
  | _ => .t xs
/-- What a call's end is asked for: the patterns of its results and of the blocks that it was given. -/
def post (rs : List RP) (bs : List BP) (F : PtT Prop (rs.flatMap RP.ps ++ bs.flatMap BP.ps)) (x : V) (m' : Mem) : Prop :=
  match pkR bs.length m' rs (resX rs x) with
  | some (os, m1) => match pkB bs.length m1 bs (List.range bs.length) with
    | some (os2, _) => apP False _ F (os ++ os2)
    | none => False
  | none => False
structure SH where
  lo : List ((Nat × Nat × Nat) × Hint)
  jo : List ((Nat × Nat × Nat) × Hint)
  inl : List Nat
  ow : List Nat
  ps : List (Nat × List RP × List BP)
  own : Bool
  n : Nat
def findH : List ((Nat × Nat × Nat) × Hint) → Nat → Nat → Nat → Option Hint
  | [], _, _, _ => none
  | (k, h) :: l, f, r, n => cond (Nat.beq k.1 f && Nat.beq k.2.1 r && Nat.beq k.2.2 n) (some h) (findH l f r n)
def findP : List (Nat × List RP × List BP) → Nat → Option (List RP × List BP)
  | [], _ => none
  | (k, h) :: l, g => cond (Nat.beq k g) (some h) (findP l g)
def allIn (ix : List Nat) : List Nat → Bool
  | [] => true
  | b :: l => inL ix b && allIn ix l
def disj (hr : List Nat) : List Nat → Bool
  | [] => true
  | b :: l => !inL hr b && disj hr l
def below (n : Nat) : List Nat → Bool
  | [] => true
  | b :: l => Nat.ble (b + 1) n && below n l
def subM (m : Mem) (ix : List Nat) : Mem := ix.map fun b => renA (fun b => posL ix b 0) (mg m b)
def datM : Mem → Mem
  | [] => []
  | a :: m => datA a :: datM m
/-- What is new, numbered as it is named: the same in whatever order it was made. -/
def canonK (ix : List Nat) (t : List V) (m : Mem) (K : List V → Mem → Prop) : Prop :=
  cond (allIn ix (refsL t) && allIn ix (ix.flatMap fun b => refsA (mg m b)) && below m.length ix) (K (renL (fun b => posL ix b 0) t) (subM m ix)) False
def canonS (n : Nat) (K : List V → Mem → Prop) (t : List V) (m : Mem) : Prop :=
  cond (Nat.ble m.length (n + 1)) (K t m) (canonK (clo m 1000 (refsL t ++ (m.take n).flatMap refsA) (List.range n)) t m K)
def dup2 (A : Prop) : Prop := A ∧ A
def callT (P : Program) (ro hr : List Nat) (g : FuncId) (ix : List Nat) (rs : List RP) (bs : List BP) (as' : List V) (m1 : Mem) (K : V → Mem → Prop) : Prop :=
  cond (disj hr ix && below m1.length ix && allIn ix (refsL as') && allIn ix (ix.flatMap fun b => refsA (mg m1 b)) && Nat.beq bs.length ix.length)
    (PRun P g (datM (subM m1 ix)) (renL (fun b => posL ix b 0) as') (post rs bs (mkP _ fun is =>
      roEq ro m1 (reB (nthN ix) (reR (nthN ix) (killM m1 ix) rs is).2.2 bs ix (reR (nthN ix) (killM m1 ix) rs is).2.1) ix
        (K (oneR rs (reR (nthN ix) (killM m1 ix) rs is).1) (reB (nthN ix) (reR (nthN ix) (killM m1 ix) rs is).2.2 bs ix (reR (nthN ix) (killM m1 ix) rs is).2.1))))) False
def patsA (m1 : Mem) (as' : List V) (ix : List Nat) : List BP := ix.map fun b => patA (subM m1 ix) (inL (refsL as') b) (renA (fun b => posL ix b 0) (mg m1 b))
def callS (P : Program) (H : SH) (ro hr : List Nat) (fn : Func) (g : FuncId) (args : List V) (m : Mem) (K : V → Mem → Prop) : Prop :=
  match cond (inL H.ow g) (some (normL P fn.params.toList args, m)) (frzL (hr ++ ro) m (normL P fn.params.toList args)) with
  | none => False
  | some (as', m1) => match findP H.ps g with
    | some ps => callT P ro hr g (clo m1 1000 (refsL as') []) ps.1 ps.2 as' m1 K
    | none => callT P ro hr g (clo m1 1000 (refsL as') []) (fn.resultTypes.toList.map (patT P)) (patsA m1 as' (clo m1 1000 (refsL as') [])) as' m1 K

/- ## Code -/
abbrev PostS := Ex → List V → Mem → Prop
def thenS (K : List V → Mem → Prop) (Q : PostS) : PostS
  | .nrm, t, h => K t h
  | .ext i, t, h => Q (.ext i) t h
  | .ret, t, h => Q .ret t h
def blockS (id : Nat) (Q : PostS) : PostS
  | .nrm, t, h => Q .nrm t h
  | .ext j, t, h => cond (Nat.beq j id) (Q .nrm t h) (Q (.ext j) t h)
  | .ret, t, h => Q .ret t h
def resL (P : Program) : List ResultVar → List V → Mem → (List V → Prop) → Prop
  | [], _, _, K => K []
  | .tmp i :: l, t, m, K => resL P l t m fun vs => K (vget t i :: vs)
  | .cell i T :: l, t, m, K => sLoad P T (vget t i) m fun v => resL P l t m fun vs => K (v :: vs)
def retS (P : Program) (fn : Func) (K : V → Mem → Prop) : PostS
  | .ext _, _, _ => False
  | _, t, m => resL P fn.results.toList t m fun vs => K (oneV (normL P fn.resultTypes.toList vs)) m
def frame0 (P : Program) (fn : Func) (args : List V) : List V := normL P fn.params.toList args ++ List.replicate (fn.ntmps - args.length) .z
abbrev SelfT := Nat → List Nat → List Nat → Code → PostS → List V → Mem → Prop
def callH (P : Program) (H : SH) (self : SelfT) (ro hr : List Nat) : CallH := fun g args m K =>
  match P.funcs[g]? with
  | none => False
  | some fn => cond (inL H.inl g)
      (match fn.body with
        | none => False
        | some c => cond (fn.name == "runtime.NumGoroutine") False (self g ro hr c (retS P fn K) (frame0 P fn args) m))
      (callS P H ro hr fn g args m K)
def rnds (step : PostS → List V → Mem → Prop) (Q : PostS) : Nat → List V → Mem → Prop
  | 0, _, _ => False
  | n + 1, t, m => step (thenS (rnds step Q n) Q) t m
/-- Where code stands: in a function; in a round of a range over a function; in such a function, with what its yield does. -/
inductive YC where
  | out | rd | it (b : Nat) (f : List Nat → List Nat → List V → Mem → (V → Mem → Prop) → Prop)
abbrev SelfY := YC → SelfT
def YC.sub : YC → YC
  | .it b f => .it b f
  | _ => .out
def YC.h (Y : YC) (ro hr : List Nat) (b : Nat) (args : List V) (m : Mem) (K : V → Mem → Prop) : Prop :=
  match Y with
  | .it b' f => cond (Nat.beq b b') (f ro hr args m K) False
  | _ => False
def setA : List V → List Tmp → List V → List V
  | t, p :: ps, v :: vs => setA (vset t p v) ps vs
  | t, _, _ => t
def noEx (c : Code) : Bool := match exitsOf c with | [] => true | _ => false
def vcC (P : Program) (H : SH) (self : SelfY) (fi : Nat) : Code → YC → List Nat → List Nat → PostS → List V → Mem → Prop
  | .skip, _, _, _, Q, t, m => Q .nrm t m
  | .region _ ops d, Y, hr, ro, Q, t, m =>
    cond (ops.toList.all fun o => !isDefer o) (cond d (cond (drawB ops.toList ops.toList.length [] && Region.noSelect ops.toList.toArray) (drawS P ro hr (callH P H (self Y.sub) ro) ops.toList (canonS m.length (Q .nrm)) ops.toList.length [] [] t m) False)
      (opsSY P (hr ++ ro) (callH P H (self Y.sub) ro hr) (Y.h ro hr) ops.toList (Q .nrm) ops.toList t m)) False
  | .seq x y, Y, hr, ro, Q, t, m =>
    match findH H.jo fi (firstRegion y) m.length with
    | none => vcC P H self fi x Y hr ro (thenS (vcC P H self fi y Y hr ro Q) Q) t m
    | some h => cond (disj (hr ++ ro) (h.tk t m) && below m.length (h.bl.map (·.1))) (
      ∀ k : PtT Prop h.ps, allP h.ps (zipP (fun (A B : Prop) => A → B) h.ps (mkP h.ps fun is => vcC P H self fi y Y hr ro Q (h.st (mods x) t m is).1 (h.st (mods x) t m is).2) k) →
        vcC P H self fi x Y hr (roOf (h.base t m) 0 ++ ro) (thenS (fun t' m' => h.el (h.base t m) k t' m') Q) t m) False
  | .cond c x y, Y, hr, ro, Q, t, m => match evS t c with
    | .u (.b b) => cond b (vcC P H self fi x Y hr ro Q t m) (vcC P H self fi y Y hr ro Q t m)
    | _ => False
  | .block id c, Y, hr, ro, Q, t, m => vcC P H self fi c Y hr ro (blockS id Q) t m
  | .loop c, Y, hr, ro, Q, t, m =>
    match findH H.lo fi (firstRegion c) m.length with
    | none => rnds (fun Q => vcC P H self fi c Y hr ro Q) Q H.n t m
    | some h => cond (disj (hr ++ ro) (h.tk t m) && below m.length (h.bl.map (·.1))) (
      ∃ (I : PtT Prop h.ps) (f : PtT Nat h.ps), h.el (h.base t m) I t m ∧
        allP h.ps (zipP (fun (A B : Prop) => A → B) h.ps I (zipP (fun (n : Nat) (B : Nat → Prop) => B n) h.ps f (mkP h.ps fun is n =>
          vcC P H self fi c Y hr (roOf (h.base t m) 0 ++ ro) (thenS (fun t' m' => h.el (h.base t m) (zipP (fun (A : Prop) n' => A ∧ n' < n) h.ps I f) t' m') Q) (h.st (mods c) t m is).1 (h.st (mods c) t m is).2)))) False
  | .exit id, _, _, _, Q, t, m => Q (.ext id) t m
  | .ret, _, _, _, Q, t, m => Q .ret t m
  | .scope c, Y, hr, ro, Q, t, m => vcC P H self fi c Y hr ro Q t m
  | .label _, _, _, _, Q, t, m => Q .nrm t m
  | .rangeFunc g ps assign body, .out, hr, ro, Q, t, m =>
    match evS t g with
    | .f gi as' cs => match P.funcs[gi]? with
      | none => False
      | some fn => match fn.body with
        | none => False
        | some c => cond (fn.name == "runtime.NumGoroutine" || !noEx body) False (∀ I : Ob,
          self (.it m.length fun ro' hr' args m1 K => mg m1 m.length = .o I ∧ cond (Nat.beq args.length ps.size) (vcC P H self fi assign .rd hr' ro'
              (thenS (fun t2 m2 => vcC P H self fi body .rd hr' ro' (fun e _ m3 => match e, mg m3 m.length with
                | .nrm, .x => K (.u (.b true)) (ms m3 m.length (.o I))
                | _, _ => False) t2 m2) fun _ _ _ => False) (setA t ps.toList args) (ms m1 m.length .x)) False)
            gi ro hr c (retS P fn fun _ m' => mg m' m.length = .o I ∧ Q .nrm t (ms m' m.length .x)) (frame0 P fn (as' ++ [.y m.length] ++ cs)) (m ++ [.o I]))
    | _ => False
  | _, _, _, _, _, _, _ => False
def runS (P : Program) (H : SH) : Nat → SelfY
  | 0, _, _, _, _, _, _, _, _ => False
  | n + 1, Y, fi, ro, hr, c, Q, t, m => vcC P H (runS P H n) fi c Y hr ro Q t m
/-- A function's end: only what it was given, and what can be reached from that and from the result, is spoken of. -/
def endT (Q : V → Mem → Prop) (x : V) (m : Mem) (ix : List Nat) : Prop :=
  cond (allIn ix (refsV x) && allIn ix (ix.flatMap fun b => refsA (mg m b)) && below m.length ix) (Q (renV (fun b => posL ix b 0) x) (subM m ix)) False
def frzX (own : Bool) (m : Mem) : V → Option (V × Mem)
  | .t l => cond own (some (.t l, m)) (match frzL [] m l with | some (l', m1) => some (.t l', m1) | none => none)
  | x => cond own (some (x, m)) (frzV [] m x)
def endS (own : Bool) (n : Nat) (Q : V → Mem → Prop) (x : V) (m : Mem) : Prop :=
  match frzX own m x with
  | none => False
  | some (x1, m1) => endT Q x1 m1 (clo m1 1000 (refsV x1 ++ (m1.take n).flatMap refsA) (List.range n))
def vcFunS (P : Program) (H : SH) (n : Nat) (f : FuncId) (fn : Func) (m : Mem) (args : List V) (Q : V → Mem → Prop) : Prop :=
  match fn.body with
  | none => False
  | some c => runS P H n .out f [] [] c (retS P fn (endS H.own m.length Q)) (frame0 P fn args) m
end Go.Proofs.Ytljgfkiiikcaaaa

/- The symbolic engine, part c: values and cells; operations that leave the memory alone are told rightly. -/
set_option linter.unusedVariables false
namespace Go.Proofs.Ytljgfkiiikcaaaa
open Go
variable {P : Program} {D D' : Fz} {ρ : List Loc} {m : Mem} {chs C : List Chunk} {h : Heap} {T : List Value} {t : List V}

/- ## Values -/
theorem get_app {α : Type} {l s : List α} {i : Nat} {x : α} (h : l[i]? = some x) : (l ++ s)[i]? = some x := by
  rw [List.getElem?_append_left (List.getElem?_eq_some_iff.1 h).1]; exact h
section
variable (l : Le D D') (s : List Loc)
include l
theorem Rp.mono {v : Value} {x : V} (hr : Rp D ρ v x) : Rp D' (ρ ++ s) v x :=
  @Rp.rec D ρ (fun v x _ => Rp D' (ρ ++ s) v x) (fun vs xs _ => RpL D' (ρ ++ s) vs xs) (fun vs xs _ => RpC D' (ρ ++ s) vs xs)
    (fun h => .u (h.mono l)) (fun h => .r (get_app h)) (fun h1 h2 h3 h4 => .e (get_app h1) h2 h3 h4) (fun h1 h2 h3 => .g (get_app h1) h2 h3) (fun h1 h2 n => .q (h1.mono l) h2 n) (fun h => .w (get_app h)) (fun h => .c (h.mono l))
    (fun h => .m (get_app h)) .nm .nl (fun _ _ a b => .f a b) (fun _ a => .a a) (fun _ a => .t a) .z (fun h => .y (get_app h)) .nil (fun _ _ a b => .cons a b) .nil (fun _ hn _ a b => .cons a hn b) (fun hl _ a => .n hl a) v x hr
theorem RpL.mono {v : List Value} {x : List V} (hr : RpL D ρ v x) : RpL D' (ρ ++ s) v x :=
  @RpL.rec D ρ (fun v x _ => Rp D' (ρ ++ s) v x) (fun vs xs _ => RpL D' (ρ ++ s) vs xs) (fun vs xs _ => RpC D' (ρ ++ s) vs xs)
    (fun h => .u (h.mono l)) (fun h => .r (get_app h)) (fun h1 h2 h3 h4 => .e (get_app h1) h2 h3 h4) (fun h1 h2 h3 => .g (get_app h1) h2 h3) (fun h1 h2 n => .q (h1.mono l) h2 n) (fun h => .w (get_app h)) (fun h => .c (h.mono l))
    (fun h => .m (get_app h)) .nm .nl (fun _ _ a b => .f a b) (fun _ a => .a a) (fun _ a => .t a) .z (fun h => .y (get_app h)) .nil (fun _ _ a b => .cons a b) .nil (fun _ hn _ a b => .cons a hn b) (fun hl _ a => .n hl a) v x hr
theorem RpC.mono {v : List Value} {x : List V} (hr : RpC D ρ v x) : RpC D' (ρ ++ s) v x :=
  @RpC.rec D ρ (fun v x _ => Rp D' (ρ ++ s) v x) (fun vs xs _ => RpL D' (ρ ++ s) vs xs) (fun vs xs _ => RpC D' (ρ ++ s) vs xs)
    (fun h => .u (h.mono l)) (fun h => .r (get_app h)) (fun h1 h2 h3 h4 => .e (get_app h1) h2 h3 h4) (fun h1 h2 h3 => .g (get_app h1) h2 h3) (fun h1 h2 n => .q (h1.mono l) h2 n) (fun h => .w (get_app h)) (fun h => .c (h.mono l))
    (fun h => .m (get_app h)) .nm .nl (fun _ _ a b => .f a b) (fun _ a => .a a) (fun _ a => .t a) .z (fun h => .y (get_app h)) .nil (fun _ _ a b => .cons a b) .nil (fun _ hn _ a b => .cons a hn b) (fun hl _ a => .n hl a) v x hr
theorem Ent.mono {L : Loc} {ab : AB} {ch : Chunk} (hr : Ent D ρ L ab ch) : Ent D' (ρ ++ s) L ab ch := by
  cases hr with
  | c h => exact .c (h.mono l s)
  | w o h => exact .w (o.mono l) h
  | o h => exact .o (I := _) (Ob.mono _ h l)
  | x => exact .x
end
theorem RpL.get (F : RpL D ρ T t) (i : Nat) : Rp D ρ (lget T i) (vget t i) := by
  induction t generalizing T i with
  | nil => cases F; exact .z
  | cons x t ih =>
    cases F with
    | cons a b => cases i with
      | zero => exact a
      | succ i => exact ih b i
theorem RpL.set {v : Value} {x : V} (F : RpL D ρ T t) (i : Nat) (hv : Rp D ρ v x) : RpL D ρ (lset T i v) (vset t i x) := by
  induction t generalizing T i with
  | nil => cases F; exact .nil
  | cons y t ih =>
    cases F with
    | cons a b => cases i with
      | zero => exact .cons hv b
      | succ i => exact .cons a (ih b i)
theorem RpL.put {v : Value} {x : V} {d : Option Tmp} (F : RpL D ρ T t) (hv : Rp D ρ v x) : RpL D ρ (lput T d v) (vput t d x) := by
  cases d with
  | none => exact F
  | some i => exact F.set i hv
theorem RpL.len' {vs : List Value} {xs : List V} (F : RpL D ρ vs xs) : vs.length = xs.length := by
  induction xs generalizing vs with
  | nil => cases F; rfl
  | cons x xs ih => cases F with | cons a b => simp [ih b]
theorem RpL.at {vs : List Value} {xs : List V} (F : RpL D ρ vs xs) {i : Nat} {v : Value} (h : vs[i]? = some v) : Rp D ρ v (vget xs i) := by
  induction xs generalizing vs i with
  | nil => cases F; simp at h
  | cons x xs ih => cases F with
    | cons a b => cases i with
      | zero => simp at h; subst h; exact a
      | succ i => exact ih b (by simpa using h)
theorem RpL.app {vs ws : List Value} {xs ys : List V} (F : RpL D ρ vs xs) (G : RpL D ρ ws ys) : RpL D ρ (vs ++ ws) (xs ++ ys) := by
  induction xs generalizing vs with
  | nil => cases F; exact G
  | cons x xs ih => cases F with | cons a b => exact .cons a (ih b)
theorem RpC.app {vs ws : List Value} {xs ys : List V} (F : RpC D ρ vs xs) (G : RpC D ρ ws ys) : RpC D ρ (vs ++ ws) (xs ++ ys) := by
  induction xs generalizing vs with
  | nil => cases F; exact G
  | cons x xs ih => cases F with
    | cons a n b => exact .cons a n (ih b)
    | n hl b => rw [List.append_assoc]; exact .n hl (ih b)
theorem ofV1_S (v : Value) : Rp D ρ v (ofV1 v) ∧ ∀ k w l, ofV1 v ≠ .n k w l := by
  unfold ofV1
  split <;> first
    | exact ⟨.u (.int _ _), by simp⟩ | exact ⟨.u (.bool _), by simp⟩ | exact ⟨.u (.str _), by simp⟩ | exact ⟨.u .pn, by simp⟩ | exact ⟨.nl, by simp⟩ | exact ⟨.nm, by simp⟩ | exact ⟨.f (xs := []) (ys := []) .nil .nil, by simp⟩ | exact ⟨.z, by simp⟩
theorem ofV1L_S : ∀ (l : List Value), RpC D ρ l (l.map ofV1)
  | [] => .nil
  | v :: l => .cons (ofV1_S v).1 (ofV1_S (D := D) (ρ := ρ) v).2 (ofV1L_S l)
theorem ofV_S (v : Value) : Rp D ρ v (ofV v) := by
  unfold ofV
  split
  · exact .a (ofV1L_S _)
  · exact (ofV1_S _).1
theorem ev_S (F : RpL D ρ T t) (x : Operand) : Rp D ρ (ev T x) (evS t x) := by
  cases x with
  | tmp i => exact F.get i
  | const v => exact ofV_S v
  | func f => exact .f (xs := []) (ys := []) .nil .nil
  | global g => exact .z
theorem evL_S (F : RpL D ρ T t) : ∀ (l : List Operand), RpL D ρ (l.map (ev T)) (l.map (evS t))
  | [] => .nil
  | x :: l => .cons (ev_S F x) (evL_S F l)
theorem conc1_S {v a : Value} {x : V} (h : conc1 x = some a) (hr : Rp D ρ v x) : v = a := by
  unfold conc1 at h
  split at h <;> cases h <;> (cases hr; rename_i hr; cases hr; rfl)
theorem concL_S : ∀ {vs as' : List Value} {xs : List V}, concL xs = some as' → RpC D ρ vs xs → vs = as'
  | vs, as', [], h, hr => by cases hr; cases h; rfl
  | vs, as', x :: xs, h, hr => by
    simp only [concL] at h
    split at h
    · rename_i a as' h1 h2
      cases h
      cases hr with
      | cons a n b => rw [conc1_S h1 a, concL_S h2 b]
      | n hl b => simp [conc1] at h1
    · cases h
theorem conc_S {v a : Value} {x : V} (h : conc x = some a) (hr : Rp D ρ v x) : v = a := by
  unfold conc at h
  split at h
  · split at h
    · rename_i hl
      cases h
      cases hr with
      | a hc => rw [concL_S hl hc]
    · cases h
  · exact conc1_S h hr
theorem absV_S (v : Value) : Rp D ρ v (absV v) := by
  unfold absV
  split <;> first | exact .u (.int _ _) | exact .u (.bool _) | exact .u (.str _) | exact .z

/- ## Cells -/
theorem dropC_S {l r : List V} : ∀ {o : Nat} {vs : List Value}, dropC o l = some r → RpC D ρ vs l → ∃ p s, vs = p ++ s ∧ p.length = o ∧ RpC D ρ s r := by
  induction l with
  | nil =>
    intro o vs h hr
    cases o with
    | zero => simp only [dropC, Option.some.injEq] at h; subst h; exact ⟨[], vs, rfl, rfl, hr⟩
    | succ o => simp [dropC] at h
  | cons x l ih =>
    intro o vs h hr
    cases o with
    | zero => simp only [dropC, Option.some.injEq] at h; subst h; exact ⟨[], vs, rfl, rfl, hr⟩
    | succ o =>
      simp only [dropC] at h
      cases hc : (Nat.ble (wd x) (o + 1) && !Nat.beq (wd x) 0) with
      | false => rw [hc] at h; cases h
      | true =>
        rw [hc] at h
        simp only [Bool.and_eq_true] at hc
        have hle := Nat.le_of_ble_eq_true hc.1
        cases hr with
        | cons a n b =>
          have hw : wd x = 1 := by cases x <;> first | rfl | exact absurd rfl (n _ _ _)
          rw [hw] at h
          obtain ⟨p, s, rfl, hp, hs⟩ := ih h b
          exact ⟨_ :: p, s, rfl, by simp at hp ⊢; omega, hs⟩
        | n hl b =>
          obtain ⟨p, s, rfl, hp, hs⟩ := ih h b
          refine ⟨_ ++ p, s, (List.append_assoc _ _ _).symm, ?_, hs⟩
          simp only [wd] at hle hp
          simp [hl, hp]; omega
theorem prefC_S {l r : List V} : ∀ {n : Nat} {vs : List Value}, prefC n l = some r → RpC D ρ vs l → ∃ p s, vs = p ++ s ∧ p.length = n ∧ RpC D ρ p r := by
  induction l generalizing r with
  | nil =>
    intro o vs h hr
    cases o with
    | zero => simp only [prefC, Option.some.injEq] at h; subst h; exact ⟨[], vs, rfl, rfl, .nil⟩
    | succ o => simp [prefC] at h
  | cons x l ih =>
    intro o vs h hr
    cases o with
    | zero => simp only [prefC, Option.some.injEq] at h; subst h; exact ⟨[], vs, rfl, rfl, .nil⟩
    | succ o =>
      simp only [prefC] at h
      cases hc : (Nat.ble (wd x) (o + 1) && !Nat.beq (wd x) 0) with
      | false => rw [hc] at h; cases h
      | true =>
        rw [hc] at h
        simp only [Bool.and_eq_true] at hc
        have hle := Nat.le_of_ble_eq_true hc.1
        simp only [cond_true] at h
        split at h
        · rename_i r' hr'
          cases h
          cases hr with
          | cons a n b =>
            have hw : wd x = 1 := by cases x <;> first | rfl | exact absurd rfl (n _ _ _)
            rw [hw] at hr'
            obtain ⟨p, s, rfl, hp, hs⟩ := ih hr' b
            exact ⟨_ :: p, s, rfl, by simp at hp ⊢; omega, .cons a n hs⟩
          | n hl b =>
            obtain ⟨p, s, rfl, hp, hs⟩ := ih hr' b
            refine ⟨_ ++ p, s, (List.append_assoc _ _ _).symm, ?_, .n hl hs⟩
            simp only [wd] at hle hp
            simp [hl, hp]; omega
        · cases h
theorem wds_len {l : List V} : ∀ {vs : List Value}, RpC D ρ vs l → vs.length = wds l := by
  induction l with
  | nil => intro vs h; cases h; rfl
  | cons x l ih =>
    intro vs h
    cases h with
    | cons a n b =>
      have hw : wd x = 1 := by cases x <;> first | rfl | exact absurd rfl (n _ _ _)
      simp only [wds, hw, List.length_cons, ih b]; omega
    | n hl b => simp [wds, wd, hl, ih b]
theorem putC_S {new l r : List V} {ns : List Value} (hn : RpC D ρ ns new) : ∀ {o : Nat} {vs : List Value}, putC new o l = some r → RpC D ρ vs l → o + ns.length ≤ vs.length ∧ RpC D ρ (splice vs o ns) r := by
  have sp : ∀ (a b c : List Value), a.length = b.length → splice (a ++ c) 0 b = b ++ c := by
    intro a
    induction a with
    | nil => intro b c h; cases b with | nil => cases c <;> rfl | cons _ _ => simp at h
    | cons x a ih => intro b c h; cases b with | nil => simp at h | cons y b => simp only [List.cons_append, splice]; rw [ih b c (by simpa using h)]
  have sp2 : ∀ (a c b : List Value) (k : Nat), splice (a ++ c) (a.length + k) b = a ++ splice c k b := by
    intro a c b k
    cases b with
    | nil => rw [splice_nil, splice_nil]
    | cons y b =>
      induction a with
      | nil => rw [List.nil_append, List.nil_append, List.length_nil, Nat.zero_add]
      | cons x a ih => rw [List.length_cons, show a.length + 1 + k = (a.length + k) + 1 by omega, List.cons_append, splice, ih, List.cons_append]
  induction l generalizing r with
  | nil =>
    intro o vs h hr
    cases o with
    | zero =>
      simp only [putC] at h
      split at h
      · rename_i r' hr'
        cases h
        obtain ⟨p, s, rfl, hp, hs⟩ := dropC_S hr' hr
        rw [← wds_len hn] at hp
        exact ⟨by simp [hp], by rw [sp _ _ _ hp]; exact hn.app hs⟩
      · cases h
    | succ o => simp [putC] at h
  | cons x l ih =>
    intro o vs h hr
    cases o with
    | zero =>
      simp only [putC] at h
      split at h
      · rename_i r' hr'
        cases h
        obtain ⟨p, s, rfl, hp, hs⟩ := dropC_S hr' hr
        rw [← wds_len hn] at hp
        exact ⟨by simp [hp], by rw [sp _ _ _ hp]; exact hn.app hs⟩
      · cases h
    | succ o =>
      simp only [putC] at h
      cases hc : (Nat.ble (wd x) (o + 1) && !Nat.beq (wd x) 0) with
      | false => rw [hc] at h; cases h
      | true =>
        rw [hc] at h
        simp only [Bool.and_eq_true] at hc
        have hle := Nat.le_of_ble_eq_true hc.1
        simp only [cond_true] at h
        split at h
        · rename_i r' hr'
          cases h
          cases hr with
          | cons a n b =>
            have hw : wd x = 1 := by cases x <;> first | rfl | exact absurd rfl (n _ _ _)
            rw [hw] at hr'
            obtain ⟨h1, h2⟩ := ih hr' b
            refine ⟨by simp at h1 ⊢; omega, ?_⟩
            cases ns with
            | nil => rw [splice_nil] at h2 ⊢; exact .cons a n h2
            | cons y ns => exact .cons a n h2
          | n hl b =>
            obtain ⟨h1, h2⟩ := ih hr' b
            simp only [wd] at h1 h2 hle
            refine ⟨by simp [hl]; omega, ?_⟩
            rw [show o + 1 = (List.map (Value.int _) _).length + (o + 1 - (List.map (Value.int _) _).length) by rw [List.length_map, hl]; omega, sp2]
            rw [List.length_map, hl]
            exact .n hl h2
        · cases h
theorem mg_eq : ∀ {m : Mem} {i : Nat}, i < m.length → m[i]? = some (mg m i)
  | [], _, h => by simp at h
  | _ :: _, 0, _ => rfl
  | _ :: m, i + 1, h => by simpa [mg] using mg_eq (m := m) (by simpa using h)
theorem mg_lt {m : Mem} {i : Nat} (h : mg m i ≠ .x) : i < m.length := by
  induction m generalizing i with
  | nil => exact absurd rfl h
  | cons a m ih => cases i with
    | zero => simp
    | succ i => have := ih (i := i) h; simp; omega
/-- What stands in a block that is alive. -/
theorem SAt.get (M : SAt D ρ m chs C h) {b : Nat} (hb : mg m b ≠ .x) : ∃ L ch, ρ[b]? = some L ∧ chs[b]? = some ch ∧ Ent D ρ L (mg m b) ch := by
  have hlt := mg_lt hb
  have h1 : b < ρ.length := by rw [M.len]; exact hlt
  have h2 : b < chs.length := by rw [M.lch]; exact hlt
  exact ⟨ρ[b], chs[b], List.getElem?_eq_getElem h1, List.getElem?_eq_getElem h2, M.ent b _ _ _ (List.getElem?_eq_getElem h1) (mg_eq hlt) (List.getElem?_eq_getElem h2)⟩
theorem SAt.own (M : SAt D ρ m chs C h) {b : Nat} {ch : Chunk} (hc : chs[b]? = some ch) {p : Nat × Obj} (hp : p ∈ ch) : h[p.1]? = some p.2 :=
  M.st.own p (List.mem_flatten.2 ⟨ch, List.mem_append.2 (.inl (List.mem_of_getElem? hc)), hp⟩)
/-- Where what is read stands: frozen, or in the blocks bs. -/
def Cov (D : Fz) (chs : List Chunk) (bs : List Nat) (bb : Nat) (ob : Obj) : Prop := D bb = some ob ∨ ∃ b ch, inL bs b = true ∧ chs[b]? = some ch ∧ (bb, ob) ∈ ch
def Hs (D : Fz) (chs : List Chunk) (bs : List Nat) (w : World) : Prop := ∀ bb ob, Cov D chs bs bb ob → w.heap[bb]? = some ob
theorem SAt.hs (M : SAt D ρ m chs C h) (bs : List Nat) {w : World} (hw : w.heap = h) : Hs D chs bs w := by
  rintro bb ob (hd | ⟨b, ch, -, hc, hp⟩)
  · rw [hw]; exact (M.st.fz bb ob hd).1
  · rw [hw]; exact M.own hc hp
theorem inL_iff : ∀ {l : List Nat} {b : Nat}, inL l b = true ↔ b ∈ l
  | [], b => by simp [inL]
  | x :: l, b => by
    simp only [inL, Bool.or_eq_true, List.mem_cons, inL_iff (l := l)]
    constructor
    · rintro (h | h)
      · exact .inl (Nat.eq_of_beq_eq_true h).symm
      · exact .inr h
    · rintro (rfl | h)
      · exact .inl (Nat.beq_refl _)
      · exact .inr h
end Go.Proofs.Ytljgfkiiikcaaaa

/- The symbolic engine, part d: operations that leave the memory alone are told rightly. -/
set_option linter.unusedVariables false
namespace Go.Proofs.Ytljgfkiiikcaaaa
open Go
variable {P : Program} {D D' : Fz} {ρ : List Loc} {m : Mem} {chs C : List Chunk} {h : Heap} {T : List Value} {t : List V}

/- ## Eliminators -/
theorem idxK_spec {i : Int} {n : Nat} {K : Nat → Prop} (hh : idxK i n K) : ∃ j : Nat, i = .ofNat j ∧ j < n ∧ K j := by
  unfold idxK at hh
  split at hh
  · obtain ⟨h1, h2⟩ := cond_spec hh
    exact ⟨_, rfl, Nat.le_of_ble_eq_true h1, h2⟩
  · exact hh.elim
theorem elL_spec {α : Type} {l : List α} {k : Int} {K : α → Prop} (hh : elL l k K) : 0 ≤ k ∧ ∃ r, l[k.toNat]? = some r ∧ K r := by
  unfold elL at hh
  split at hh
  · rename_i i
    split at hh
    · rename_i r hr; exact ⟨Int.natCast_nonneg i, r, hr, hh⟩
    · exact hh.elim
  · exact hh.elim
theorem oP_spec {α : Type} {o : Option α} {K : α → Prop} (hh : oP o K) : ∃ c, o = some c ∧ K c := by
  unfold oP at hh
  split at hh
  · exact ⟨_, rfl, hh⟩
  · exact hh.elim
theorem dU_spec {z : Value × Nat} {o : Option U} {K : U → Prop} (hh : dU z o K) : ∃ u, o = some u ∧ K u := by
  unfold dU at hh
  split at hh
  · unfold dI at hh; split at hh
    · obtain ⟨h1, h2⟩ := kindEq_spec hh; subst h1; exact ⟨_, rfl, h2⟩
    · exact hh.elim
  · unfold dB at hh; split at hh
    · exact ⟨_, rfl, hh⟩
    · exact hh.elim
  · unfold dS at hh; split at hh
    · exact ⟨_, rfl, hh⟩
    · exact hh.elim
  · unfold dL at hh; split at hh
    · obtain ⟨h1, h2⟩ := cond_spec hh
      have := Nat.eq_of_beq_eq_true h1
      subst this
      exact ⟨_, rfl, h2⟩
    · exact hh.elim
  · unfold dP at hh; split at hh
    · exact ⟨_, rfl, hh⟩
    · exact hh.elim
  · exact hh.elim
theorem ug_eq : ∀ (l : List U) (i : Nat), ug l i = l[i]?
  | [], _ => by simp [ug]
  | _ :: _, 0 => rfl
  | _ :: l, i + 1 => by simp [ug, ug_eq l i]
theorem dUs_spec : ∀ {zs : List (Value × Nat)} {r : List U} {o : Nat} {K : List U → Prop}, dUs zs r o K → ∃ us, us.length = zs.length ∧ (∀ j u, us[j]? = some u → r[o + j]? = some u) ∧ K us
  | [], r, o, K, hh => ⟨[], rfl, by simp, hh⟩
  | z :: zs, r, o, K, hh => by
    obtain ⟨u, hu, h2⟩ := dU_spec hh
    obtain ⟨us, hl, hg, hK⟩ := dUs_spec h2
    refine ⟨u :: us, by simp [hl], fun j v hv => ?_, hK⟩
    cases j with
    | zero => simp at hv; subst hv; rw [ug_eq] at hu; simpa using hu
    | succ j => have := hg j v (by simpa using hv); rw [show o + (j + 1) = o + 1 + j by omega]; exact this
theorem RpC.ofU : ∀ {vs : List Value} {us : List U}, RdL D vs us → RpC D ρ vs (us.map .u)
  | _, _, .nil => .nil
  | _, _, .cons a b => .cons (.u a) (by simp) (RpC.ofU b)
theorem RpC.toU : ∀ {us : List U} {l : List V} {vs : List Value}, cellU l = some us → RpC D ρ vs l → RdL D vs us
  | us, [], vs, hc, hr => by cases hr; cases hc; exact .nil
  | us, x :: l, vs, hc, hr => by
    cases x with
    | u x =>
      simp only [cellU] at hc
      split at hc
      · rename_i us' hus
        cases hc
        cases hr with
        | cons a n b => cases a with | u a => exact .cons a (RpC.toU hus b)
      · cases hc
    | nl s =>
      simp only [cellU] at hc
      split at hc
      · rename_i us' hus
        cases hc
        cases hr with
        | cons a n b => cases a; exact .cons (.nil _ _ _) (RpC.toU hus b)
      · cases hc
    | _ => simp [cellU] at hc

/- ## Layouts -/
theorem layS_one {T : TypeId} {z : Value × Nat} (hl : layS P T = some (.one z)) : layOf P T = some (.one z.1) := by
  unfold layS at hl
  cases h1 : layOf P T with
  | none => rw [h1] at hl; simp at hl
  | some l =>
    rw [h1] at hl
    cases l with
    | one z' => cases h2 : leafs P 9 T with
      | nil => rw [h2] at hl; simp at hl
      | cons s ss => rw [h2] at hl; simp at hl; subst hl; rfl
    | many cs => cases hb : Nat.beq cs.length (leafs P 9 T).length <;> simp [hb] at hl
theorem layS_many {T : TypeId} {zs : List (Value × Nat)} (hl : layS P T = some (.many zs)) : ∃ cs, layOf P T = some (.many cs) ∧ cs.length = zs.length := by
  unfold layS at hl
  cases h1 : layOf P T with
  | none => rw [h1] at hl; simp at hl
  | some l =>
    rw [h1] at hl
    cases l with
    | one z' => cases h2 : leafs P 9 T with
      | nil => rw [h2] at hl; simp at hl
      | cons s ss => rw [h2] at hl; simp at hl
    | many cs => cases hb : Nat.beq cs.length (leafs P 9 T).length with
      | false => simp [hb] at hl
      | true =>
        simp [hb] at hl; subst hl
        have := Nat.eq_of_beq_eq_true hb
        exact ⟨cs, rfl, by simp [this]⟩
theorem run_ld1 {S : TypeId} {z : Value} (hl : layOf P S = some (.one z)) {b o : Nat} {v : Value} {w : World} (hc : hcell w.heap ⟨b, o, none⟩ = some v) : (loadVar S ⟨b, o, none⟩).run P w = .ok v w := by
  obtain ⟨ha, -, -⟩ := layOf_one hl
  have hv' : w.cell? ⟨b, o, none⟩ = some v := hc
  simp [loadVar, ha, Go.load, Sem.run, hv']
theorem run_ldN {S : TypeId} {cs : List Value} (hl : layOf P S = some (.many cs)) {b o : Nat} {vs : List Value} {w : World} (hn : vs.length = cs.length) (hc : ∀ j v, vs[j]? = some v → hcell w.heap ⟨b, o + j, none⟩ = some v) :
    (loadVar S ⟨b, o, none⟩).run P w = .ok (.agg vs.toArray) w := by
  obtain ⟨ha, i, hi, hs⟩ := layOf_many hl
  have hr : (loadCells ⟨b, o, none⟩ vs.length).run P w = .ok vs.toArray w :=
    run_loadCells_list (P := P) w ⟨b, o, none⟩ vs (fun j v hv => by rw [add_plain]; exact hc j v hv)
  simp [loadVar, ha, run_sizeOf1 hi, hs, ← hn, hr]
theorem run_pt1 {S : TypeId} {z : Value} (hl : layOf P S = some (.one z)) {xs : Array Value} {i : Nat} {v : Value} (hc : xs[i]? = some v) (w : World) : (part S xs i).run P w = .ok v w := by
  obtain ⟨ha, -, -⟩ := layOf_one hl
  simp only [part, Sem.run_bind, ha, Result.andThen_ok, Bool.false_eq_true, if_false, hc]
  rfl
theorem run_ptN {S : TypeId} {cs : List Value} (hl : layOf P S = some (.many cs)) {p vs s : List Value} (hn : vs.length = cs.length) (w : World) :
    (part S (p ++ (vs ++ s)).toArray p.length).run P w = .ok (.agg vs.toArray) w := by
  obtain ⟨ha, i, hi, hs⟩ := layOf_many hl
  simp only [part, Sem.run_bind, ha, Result.andThen_ok, if_true, run_sizeOf1 hi, Sem.run_pure]
  congr 2
  simp [hs, ← hn]

/- ## Reading -/
/-- A frozen block's cells. -/
theorem Rd.pp_iff {p o : Nat} {c : List U} (hr : Rd D (.pointer (some ⟨p, o, none⟩)) (.p (some c))) : ∃ (arr : Array Value) (S : TypeId) (f : Nat × Nat) (v : Nat → Value), D p = some (.cells arr S f) ∧
    (∀ j u, c[j]? = some u → arr[o + j]? = some (v j)) ∧ ∀ j u, c[j]? = some u → Rd D (v j) u := by
  cases hr with
  | pp b o arr S f us v h1 h2 h3 => exact ⟨arr, S, f, v, h1, h2, h3⟩
theorem hcell_w {w : World} {b : Nat} {c : Array Value} {e : TypeId} {f : Nat × Nat} (hb : w.heap[b]? = some (.cells c e f)) (o : Nat) : hcell w.heap ⟨b, o, none⟩ = c[o]? := hcell_of hb o
theorem load1_S {S : TypeId} {z : Value × Nat} (hl : layS P S = some (.one z)) {a : V} {va : Value} {KS : V → Prop} (hs : load1 z a m KS) (M : SAt D ρ m chs C h) (ha : Rp D ρ va a) {bs : List Nat} (hbs : ∀ b, b ∈ refsV a → inL bs b = true) :
    ∃ bb oo v x, va = .pointer (some ⟨bb, oo, none⟩) ∧ KS x ∧ Rp D ρ v x ∧ ∀ w, Hs D chs bs w → (loadVar S ⟨bb, oo, none⟩).run P w = .ok v w := by
  have hl := layS_one hl
  cases a with
  | r b o =>
    simp only [load1] at hs
    split at hs
    · rename_i cells hm
      obtain ⟨L, ch, h1, h2, h3⟩ := M.get (b := b) (by rw [hm]; simp)
      rw [hm] at h3
      cases h3 with
      | c hc =>
        rename_i arr S'
        split at hs
        · rename_i v l hd
          obtain ⟨hk, hK⟩ := cond_spec hs
          obtain ⟨p, s, rfl, hp, hr⟩ := dropC_S hd hc
          cases ha with
          | r ha =>
            rw [h1] at ha; cases ha
            cases hr with
            | cons x n y =>
              refine ⟨_, _, _, _, rfl, hK, x, fun w hw => run_ld1 hl ?_⟩
              rw [hcell_w (hw L.b _ (.inr ⟨b, _, hbs b (by simp [refsV]), h2, List.mem_singleton_self _⟩))]
              simp [← hp]
            | n hl' y => simp [shOk] at hk
        · exact hs.elim
    · exact hs.elim
  | g b o w k =>
    simp only [load1] at hs
    split at hs
    · rename_i cells hm
      obtain ⟨L, ch, h1, h2, h3⟩ := M.get (b := b) (by rw [hm]; simp)
      rw [hm] at h3
      cases h3 with
      | c hc =>
        rename_i arr S'
        split at hs
        · rename_i k' w' l r hd
          obtain ⟨hk, hK⟩ := cond_spec hs
          simp only [Bool.and_eq_true] at hk
          obtain ⟨p, s, rfl, hp, hr⟩ := dropC_S hd hc
          obtain ⟨h0, n, hn, hK⟩ := elL_spec hK
          have hk3 : k' = .i64 := by
            cases k' <;> first | rfl | (have := hk.1.2; simp [kindNo] at this)
          subst hk3
          cases ha with
          | g ha =>
            rw [h1] at ha; cases ha
            cases hr with
            | cons x n y => exact absurd rfl (n _ _ _)
            | n hl' y =>
              refine ⟨_, _, .int .i64 n, _, rfl, hK, .u (.int _ _), fun w hw => run_ld1 hl ?_⟩
              rw [hcell_w (hw L.b _ (.inr ⟨b, _, hbs b (by simp [refsV]), h2, List.mem_singleton_self _⟩))]
              simp only [List.getElem?_toArray]
              rw [List.getElem?_append_right (by omega), hp, show o + k.toNat - o = k.toNat by omega]
              exact get_app (by simp [hn])
        · exact hs.elim
    · exact hs.elim
  | e b sz k o =>
    simp only [load1] at hs
    split at hs
    · rename_i E sz' rows hm
      obtain ⟨L, ch, h1, h2, h3⟩ := M.get (b := b) (by rw [hm]; simp)
      rw [hm] at h3
      obtain ⟨hk, hK⟩ := cond_spec hs
      have := Nat.eq_of_beq_eq_true hk
      subst this
      obtain ⟨h0, r, hr, hK⟩ := elL_spec hK
      obtain ⟨u, hu, hK⟩ := dU_spec hK
      rw [ug_eq] at hu
      cases ha with
      | e ha hL hk0 hk1 =>
        rename_i p q L'
        rw [h1] at ha; cases ha
        cases h3 with
        | w own hn =>
          generalize hA : L.a = A at *
          subst hL
          cases own with
          | row bb c arr rows v g1 g2 g3 g4 g5 =>
            refine ⟨_, _, _, _, rfl, hK, .u (g5 _ _ _ _ hr hu), fun w hw => run_ld1 hl ?_⟩
            rw [hcell_w (hw _ _ (.inr ⟨b, _, hbs b (by simp [refsV]), h2, List.mem_singleton_self _⟩)), Nat.zero_add]
            exact g4 _ _ _ _ hr hu
    · exact hs.elim
  | q c o =>
    simp only [load1] at hs
    obtain ⟨u, hu, hK⟩ := dU_spec hs
    rw [ug_eq] at hu
    cases ha with
    | q hr ho =>
      rename_i p o1 o2
      subst ho
      obtain ⟨arr, S', f, v, g1, g2, g3⟩ := hr.pp_iff
      refine ⟨_, _, _, _, rfl, hK, .u (g3 _ _ hu), fun w hw => run_ld1 hl ?_⟩
      rw [hcell_w (hw _ _ (.inl g1))]
      exact g2 _ _ hu
  | u x =>
    cases x with
    | p p =>
      simp only [load1] at hs
      obtain ⟨c, rfl, hs2⟩ := oP_spec hs
      obtain ⟨u, hu, hK⟩ := dU_spec hs2
      rw [ug_eq] at hu
      cases ha with
      | u hr =>
        cases hr with
        | pp b o arr S' f us v g1 g2 g3 =>
          refine ⟨_, _, _, _, rfl, hK, .u (g3 _ _ hu), fun w hw => run_ld1 hl ?_⟩
          rw [hcell_w (hw _ _ (.inl g1))]
          exact g2 _ _ hu
    | _ => simp only [load1] at hs
  | _ => simp only [load1] at hs
theorem RdL.mk {us : List U} (f : Nat → Value) (hf : ∀ j u, us[j]? = some u → Rd D (f j) u) : RdL D ((List.range us.length).map f) us := RdL.of_get f hf
theorem rmap {f : Nat → Value} {n j : Nat} {v : Value} (hj : ((List.range n).map f)[j]? = some v) : j < n ∧ v = f j := by
  rw [List.getElem?_map] at hj
  obtain ⟨i, hi, rfl⟩ := Option.map_eq_some_iff.1 hj
  obtain ⟨h1, h2⟩ := List.getElem?_eq_some_iff.1 hi
  simp at h1 h2
  subst h2
  exact ⟨h1, rfl⟩
theorem loadN_S {S : TypeId} {zs : List (Value × Nat)} (hl : layS P S = some (.many zs)) {a : V} {va : Value} {KS : V → Prop} (hs : loadN zs a m KS) (M : SAt D ρ m chs C h) (ha : Rp D ρ va a) {bs : List Nat} (hbs : ∀ b, b ∈ refsV a → inL bs b = true) :
    ∃ bb oo v x, va = .pointer (some ⟨bb, oo, none⟩) ∧ KS x ∧ Rp D ρ v x ∧ ∀ w, Hs D chs bs w → (loadVar S ⟨bb, oo, none⟩).run P w = .ok v w := by
  obtain ⟨cs, hl, hn⟩ := layS_many hl
  -- a row of cells that is frozen, or one's own
  have fin : ∀ {us : List U} {bb oo : Nat} (f : Nat → Value), us.length = zs.length → (∀ j u, us[j]? = some u → Rd D (f j) u) → (∀ j u, us[j]? = some u → ∀ w, Hs D chs bs w → hcell w.heap ⟨bb, oo + j, none⟩ = some (f j)) → KS (.a (us.map .u)) →
      ∃ v x, KS x ∧ Rp D ρ v x ∧ ∀ w, Hs D chs bs w → (loadVar S ⟨bb, oo, none⟩).run P w = .ok v w := by
    intro us bb oo f h1 h2 h3 hK
    refine ⟨_, _, hK, .a (.ofU (RdL.mk f h2)), fun w hw => run_ldN hl (by simp [h1, hn]) fun j v hv => ?_⟩
    obtain ⟨hj, rfl⟩ := rmap hv
    exact h3 j us[j] (List.getElem?_eq_getElem hj) w hw
  cases a with
  | r b o =>
    simp only [loadN] at hs
    split at hs
    · rename_i cells hm
      obtain ⟨L, ch, h1, h2, h3⟩ := M.get (b := b) (by rw [hm]; simp)
      rw [hm] at h3
      cases h3 with
      | c hc =>
        rename_i arr S'
        split at hs
        · rename_i l hd
          split at hs
          · rename_i vs hv
            obtain ⟨hk, hK⟩ := cond_spec hs
            obtain ⟨p, s, rfl, hp, hr⟩ := dropC_S hd hc
            obtain ⟨p2, s2, rfl, hp2, hr⟩ := prefC_S hv hr
            cases ha with
            | r ha =>
              rw [h1] at ha; cases ha
              refine ⟨_, _, _, _, rfl, hK, .a hr, fun w hw => run_ldN hl (by rw [hp2, hn]) fun j v hv => ?_⟩
              rw [hcell_w (hw L.b _ (.inr ⟨b, _, hbs b (by simp [refsV]), h2, List.mem_singleton_self _⟩))]
              simp only [List.getElem?_toArray]
              rw [List.getElem?_append_right (by omega), show o + j - p.length = j by omega]
              exact get_app hv
          · exact hs.elim
        · exact hs.elim
    · exact hs.elim
  | e b sz k o =>
    simp only [loadN] at hs
    split at hs
    · rename_i E sz' rows hm
      obtain ⟨L, ch, h1, h2, h3⟩ := M.get (b := b) (by rw [hm]; simp)
      rw [hm] at h3
      obtain ⟨hk, hK⟩ := cond_spec hs
      have := Nat.eq_of_beq_eq_true hk
      subst this
      obtain ⟨h0, r, hr, hK⟩ := elL_spec hK
      obtain ⟨us, hu1, hu2, hK⟩ := dUs_spec hK
      cases ha with
      | e ha hL hk0 hk1 =>
        rename_i p q L'
        rw [h1] at ha; cases ha
        cases h3 with
        | w own hn =>
          generalize hA : L.a = A at *
          subst hL
          cases own with
          | row bb c arr rows v g1 g2 g3 g4 g5 =>
            obtain ⟨v', x, a1, a2, a3⟩ := fin (bb := p) (oo := 0 + k.toNat * sz + o) (fun j => v k.toNat (o + j)) hu1 (fun j u hj => g5 _ _ _ _ hr (hu2 j u hj)) (fun j u hj w hw => by
              rw [hcell_w (hw _ _ (.inr ⟨b, _, hbs b (by simp [refsV]), h2, List.mem_singleton_self _⟩)), Nat.zero_add, Nat.add_assoc]
              exact g4 _ _ _ _ hr (hu2 j u hj)) hK
            exact ⟨_, _, v', x, rfl, a1, a2, a3⟩
    · exact hs.elim
  | q c o =>
    simp only [loadN] at hs
    obtain ⟨us, hu1, hu2, hK⟩ := dUs_spec hs
    cases ha with
    | q hr ho =>
      rename_i p o1 o2
      subst ho
      obtain ⟨arr, S', f, v, g1, g2, g3⟩ := hr.pp_iff
      obtain ⟨v', x, a1, a2, a3⟩ := fin (bb := p) (oo := o2 + o) (fun j => v (o + j)) hu1 (fun j u hj => g3 _ _ (hu2 j u hj)) (fun j u hj w hw => by
        rw [hcell_w (hw _ _ (.inl g1)), Nat.add_assoc]
        exact g2 _ _ (hu2 j u hj)) hK
      exact ⟨_, _, v', x, rfl, a1, a2, a3⟩
  | u x =>
    cases x with
    | p p =>
      simp only [loadN] at hs
      obtain ⟨c, rfl, hs2⟩ := oP_spec hs
      obtain ⟨us, hu1, hu2, hK⟩ := dUs_spec hs2
      cases ha with
      | u hr =>
        cases hr with
        | pp b o arr S' f us' v g1 g2 g3 =>
          obtain ⟨v', x, a1, a2, a3⟩ := fin (bb := b) (oo := o) (fun j => v (0 + j)) hu1 (fun j u hj => g3 _ _ (hu2 j u hj)) (fun j u hj w hw => by
            rw [hcell_w (hw _ _ (.inl g1))]
            have := g2 _ _ (hu2 j u hj); rw [Nat.zero_add] at this ⊢; exact this) hK
          exact ⟨_, _, v', x, rfl, a1, a2, a3⟩
    | _ => simp only [loadN] at hs
  | _ => simp only [loadN] at hs
theorem sLoad_S {S : TypeId} {a : V} {va : Value} {KS : V → Prop} (hs : sLoad P S a m KS) (M : SAt D ρ m chs C h) (ha : Rp D ρ va a) {bs : List Nat} (hbs : ∀ b, b ∈ refsV a → inL bs b = true) :
    ∃ bb oo v x, va = .pointer (some ⟨bb, oo, none⟩) ∧ KS x ∧ Rp D ρ v x ∧ ∀ w, Hs D chs bs w → (loadVar S ⟨bb, oo, none⟩).run P w = .ok v w := by
  unfold sLoad at hs
  split at hs
  · rename_i z hl; exact load1_S hl hs M ha hbs
  · rename_i zs hl; exact loadN_S hl hs M ha hbs
  · exact hs.elim
end Go.Proofs.Ytljgfkiiikcaaaa

/- The symbolic engine, part e: quiet operations. -/
set_option linter.unusedVariables false
namespace Go.Proofs.Ytljgfkiiikcaaaa
open Go
variable {P : Program} {D D' : Fz} {ρ : List Loc} {m : Mem} {chs C : List Chunk} {h : Heap} {T : List Value} {t : List V}

theorem Rp.r_inv {v : Value} {b o : Nat} (hr : Rp D ρ v (.r b o)) : ∃ L, ρ[b]? = some L ∧ v = .pointer (some ⟨L.b, o, none⟩) := by cases hr; exact ⟨_, by assumption, rfl⟩
theorem Rp.e_inv {v : Value} {b sz o : Nat} {k : Int} (hr : Rp D ρ v (.e b sz k o)) : ∃ L p q, ρ[b]? = some L ∧ L.a = some ⟨p, q, none⟩ ∧ 0 ≤ k ∧ k < L.n ∧ v = .pointer (some ⟨p, q + k.toNat * sz + o, none⟩) := by
  cases hr; exact ⟨_, _, _, by assumption, by assumption, by assumption, by assumption, rfl⟩
theorem Rp.g_inv {v : Value} {b o w : Nat} {k : Int} (hr : Rp D ρ v (.g b o w k)) : ∃ L, ρ[b]? = some L ∧ 0 ≤ k ∧ k < w ∧ v = .pointer (some ⟨L.b, o + k.toNat, none⟩) := by
  cases hr; exact ⟨_, by assumption, by assumption, by assumption, rfl⟩
theorem Rp.q_inv {v : Value} {c : List U} {n : Nat} (hr : Rp D ρ v (.q c n)) : ∃ p o, Rd D (.pointer (some ⟨p, o, none⟩)) (.p (some c)) ∧ v = .pointer (some ⟨p, o + n, none⟩) := by
  cases hr with | q h1 h2 => subst h2; exact ⟨_, _, h1, rfl⟩
theorem Rp.p_inv {v : Value} {c : List U} (hr : Rp D ρ v (.u (.p (some c)))) : ∃ p o, Rd D (.pointer (some ⟨p, o, none⟩)) (.p (some c)) ∧ v = .pointer (some ⟨p, o, none⟩) := by
  cases hr with | u hr => cases h : hr with | pp => exact ⟨_, _, hr, rfl⟩
theorem Rp.w_inv {v : Value} {b : Nat} (hr : Rp D ρ v (.w b)) : ∃ L, ρ[b]? = some L ∧ v = .slice L.a L.n L.c := by cases hr; exact ⟨_, by assumption, rfl⟩
theorem Rp.l_inv {v : Value} {sz : Nat} {rows : List (List U)} (hr : Rp D ρ v (.u (.l sz rows))) : ∃ a c, v = .slice a rows.length c ∧ Rd D (.slice a rows.length c) (.l sz rows) := by
  cases hr with | u hr => obtain ⟨a, c, rfl, -⟩ := hr.shape; exact ⟨a, c, rfl, hr⟩
theorem Rp.c_inv {v : Value} {sz : Nat} {rows : List (List U)} (hr : Rp D ρ v (.c sz rows)) : ∃ a, v = .slice a rows.length rows.length ∧ Rd D (.slice a rows.length rows.length) (.l sz rows) := by
  cases hr with | c hr => have := hr.len.1; subst this; exact ⟨_, rfl, hr⟩
theorem Rp.f_inv {v : Value} {g : FuncId} {a c : List V} (hr : Rp D ρ v (.f g a c)) : ∃ xs ys, v = .func (.func g) xs.toArray ys.toArray ∧ RpL D ρ xs a ∧ RpL D ρ ys c := by cases hr; exact ⟨_, _, rfl, by assumption, by assumption⟩
theorem Rp.a_inv {v : Value} {l : List V} (hr : Rp D ρ v (.a l)) : ∃ vs, v = .agg vs.toArray ∧ RpC D ρ vs l := by cases hr; exact ⟨_, rfl, by assumption⟩
theorem Rp.t_inv {v : Value} {l : List V} (hr : Rp D ρ v (.t l)) : ∃ vs, v = .tuple vs.toArray ∧ RpL D ρ vs l := by cases hr; exact ⟨_, rfl, by assumption⟩
theorem Rp.ptr {v : Value} {x : V} (hr : Rp D ρ v x) (hx : isPtr x = true) : ∃ a, v = .pointer (some a) := by
  unfold isPtr at hx
  split at hx <;> first | (cases hr; exact ⟨_, rfl⟩) | cases hx
theorem yp {o : Oper} {v : Value} (hh : pureK P T o (fun u => u = v)) (w : World) : (execOp (ev T) o).run P w = .ok (.value v) w := by
  obtain ⟨u, rfl, hy⟩ := pure_sound hh
  exact hy w
theorem leK_mono {c : Bool} {l r : Int} {A B : Prop} (hh : leK c l r A) (f : A → B) : leK c l r B := by
  cases c
  · exact ⟨hh.1, f hh.2⟩
  · exact f hh
theorem u_int {v : Value} {k : IntKind} {n : Int} (hr : Rp D ρ v (.u (.i k n))) : v = .int k n := by cases hr with | u a => exact Rd.int_iff.1 a
theorem u_bool {v : Value} {c : Bool} (hr : Rp D ρ v (.u (.b c))) : v = .bool c := by cases hr with | u a => exact Rd.bool_iff.1 a
theorem u_str {v : Value} {s : ByteArray} (hr : Rp D ρ v (.u (.s s))) : v = .string s := by cases hr with | u a => exact Rd.str_iff.1 a
theorem u_nil {v : Value} (hr : Rp D ρ v (.u (.p none))) : v = .pointer none := by cases hr with | u a => cases a; rfl
theorem bnd_S (F : RpL D ρ T t) {x : Option Operand} {d i : Int} (hb : bndS t x d = some i) : bnd T x d = some i := by
  unfold bndS at hb
  unfold bnd
  split at hb
  · exact hb
  · rename_i x
    split at hb
    · rename_i k i' he
      have := ev_S F x
      rw [he] at this
      simp only [u_int this]; exact hb
    · cases hb
theorem bin_S {op : BinOp} {S : TypeId} {x y : V} {a b : Value} {KS : V → Prop} (hs : binS P op S x y KS) (ha : Rp D ρ a x) (hb : Rp D ρ b y) : binK P op S a b fun v => KS (absV v) := by
  unfold binS at hs
  split at hs
  · rename_i a' b' h1 h2
    rw [conc_S h1 ha, conc_S h2 hb]; exact hs
  · split at hs
    · have := u_nil hb; subst this
      split at hs
      · rename_i e hu
        split at hs
        · rename_i p
          cases ha with
          | u hr =>
            cases hr with
            | pn => simp only [binK, hu]; exact hs
            | pp => simp only [binK, hu]; exact hs
        · obtain ⟨h1, h2⟩ := cond_spec hs
          unfold isPtr at h1
          split at h1 <;> first | (cases ha <;> (simp only [binK, hu]; exact h2)) | cases h1
      · exact hs.elim
    · cases hb with
      | nm =>
        split at hs
        · rename_i k e hu
          split at hs
          · cases ha with | m hr => simp only [binK, hu]; exact hs
          · cases ha with | nm => simp only [binK, hu]; exact hs
          · exact hs.elim
        · exact hs.elim
    · exact hs.elim
theorem args_S (F : RpL D ρ T t) : ∀ {l : List Operand} {vs : List Value}, argsI t l = some vs → l.map (ev T) = vs
  | [], vs, hh => by cases hh; rfl
  | x :: l, vs, hh => by
    simp only [argsI] at hh
    split at hh
    · rename_i v vs' h1 h2
      cases hh
      rw [List.map_cons, args_S F h2, conc1_S h1 (ev_S F x)]
    · cases hh
theorem chunk_get : ∀ {n sz : Nat} {l : List U} {i : Nat} {r : List U}, (chunk n sz l)[i]? = some r → i < n ∧ r = (l.drop (i * sz)).take sz
  | 0, sz, l, i, r, hh => by simp [chunk] at hh
  | n + 1, sz, l, 0, r, hh => by simp [chunk] at hh; exact ⟨by omega, by simp [hh]⟩
  | n + 1, sz, l, i + 1, r, hh => by
    simp only [chunk, List.getElem?_cons_succ] at hh
    obtain ⟨h1, h2⟩ := chunk_get hh
    refine ⟨by omega, ?_⟩
    rw [h2, List.drop_drop, Nat.succ_mul, Nat.add_comm sz]
theorem RdL.split {vs : List Value} {us : List U} (hr : RdL D vs us) (n : Nat) : RdL D (vs.take n) (us.take n) ∧ RdL D (vs.drop n) (us.drop n) := by
  induction n generalizing vs us with
  | zero => simp only [List.take_zero, List.drop_zero]; exact ⟨.nil, hr⟩
  | succ n ih =>
    cases hr with
    | nil => simp only [List.take_nil, List.drop_nil]; exact ⟨.nil, .nil⟩
    | cons a b => obtain ⟨h1, h2⟩ := ih b; exact ⟨.cons a h1, h2⟩
theorem wl_one {S : TypeId} {z : Value} (hl : layOf P S = some (.one z)) : lay1 P S = 1 := by
  obtain ⟨-, -, i, hi, hs⟩ := layOf_one hl
  simp [lay1, hi, hs]
theorem wl_many {S : TypeId} {cs : List Value} (hl : layOf P S = some (.many cs)) : lay1 P S = cs.length := by
  obtain ⟨-, i, hi, hs⟩ := layOf_many hl
  simp [lay1, hi, hs]
theorem zeros_info {S : TypeId} {zs : List (Value × Nat)} (hz : zerosOf P S = some zs) : ∃ i, P.info? S = some i ∧ i.size = zs.length := by
  unfold zerosOf at hz
  split at hz
  · rename_i z hl; cases hz; exact (layOf_one (layS_one hl)).2.2
  · rename_i zs' hl; cases hz; obtain ⟨cs, h1, h2⟩ := layS_many hl; rw [← h2]; exact (layOf_many h1).2
  · cases hz
theorem zeros_lay {S : TypeId} {zs : List (Value × Nat)} (hz : zerosOf P S = some zs) : lay1 P S = zs.length := by
  unfold zerosOf at hz
  split at hz
  · rename_i z hl; cases hz; exact wl_one (layS_one hl)
  · rename_i zs' hl; cases hz; obtain ⟨cs, h1, h2⟩ := layS_many hl; rw [wl_many h1, h2]
  · cases hz
/-- A part of cells that are data. -/
theorem part_S {S : TypeId} {zs : List (Value × Nat)} (hz : zerosOf P S = some zs) {vs : List Value} {us r : List U} (hr : RdL D vs us) {i : Nat} (hi : (i + 1) * zs.length ≤ us.length) (hd : r = (us.drop (i * zs.length)).take zs.length) {r' : List U}
    (hl : r'.length = zs.length) (hg : ∀ j u, r'[j]? = some u → r[0 + j]? = some u) : ∃ v, Rp D ρ v (oneA P S (r'.map .u)) ∧ ∀ w, (part S vs.toArray (i * zs.length)).run P w = .ok v w := by
  have hrl : r.length = zs.length := by
    rw [Nat.succ_mul] at hi
    rw [hd]; simp; omega
  have hrr : r' = r := by
    apply List.ext_getElem (by rw [hl, hrl])
    intro j h1 h2
    have := hg j r'[j] (List.getElem?_eq_getElem h1)
    rw [Nat.zero_add, List.getElem?_eq_getElem h2] at this
    exact (Option.some.inj this).symm
  subst hrr
  have hv := ((hr.split (i * zs.length)).2.split zs.length).1
  rw [← hd] at hv
  generalize hvs : (vs.drop (i * zs.length)).take zs.length = v' at hv
  unfold zerosOf at hz
  unfold oneA
  split at hz
  · rename_i z hS
    cases hz
    rw [hS]
    have hone : r'.length = 1 := hl
    obtain ⟨u, rfl⟩ := List.length_eq_one_iff.1 hone
    cases hv with
    | cons a b =>
      rename_i v vs'
      cases b
      refine ⟨v, .u a, run_pt1 (layS_one hS) ?_⟩
      have : ((vs.drop (i * [z].length)).take [z].length)[0]? = some v := by rw [hvs]; rfl
      simpa using this
  · rename_i zs' hS
    cases hz
    rw [hS]
    obtain ⟨cs, h1, h2⟩ := layS_many hS
    refine ⟨.agg v'.toArray, ?_, fun w => ?_⟩
    · cases r' <;> exact .a (.ofU hv)
    · have hsp : vs = vs.take (i * zs.length) ++ (v' ++ (vs.drop (i * zs.length)).drop zs.length) := by rw [← hvs, List.take_append_drop, List.take_append_drop]
      have hlen : (vs.take (i * zs.length)).length = i * zs.length := by
        have := hr.len
        rw [Nat.succ_mul] at hi
        simp; omega
      have := run_ptN (P := P) h1 (p := vs.take (i * zs.length)) (vs := v') (s := (vs.drop (i * zs.length)).drop zs.length) (by rw [hv.len, hl, h2]) w
      rw [hlen, ← hsp] at this
      exact this
  · cases hz

theorem cellsV_S {v : Value} {x : V} {xs : List V} (hc : cellsV x = some xs) (hr : Rp D ρ v x) : RpC D ρ v.cells.toList xs := by
  cases hr with
  | a h => cases hc; exact h
  | u h =>
    cases hc
    have : v.cells.toList = [v] := by cases h <;> rfl
    rw [this]; exact .cons (.u h) (by simp) .nil
  | t => cases hc
  | z => cases hc
  | r h => cases hc; exact .cons (.r h) (by simp) .nil
  | e h1 h2 h3 h4 => cases hc; exact .cons (.e h1 h2 h3 h4) (by simp) .nil
  | g h1 h2 h3 => cases hc; exact .cons (.g h1 h2 h3) (by simp) .nil
  | q h1 h2 n => cases hc; exact .cons (.q h1 h2 n) (by simp) .nil
  | w h => cases hc; exact .cons (.w h) (by simp) .nil
  | c h => cases hc; exact .cons (.c h) (by simp) .nil
  | m h => cases hc; exact .cons (.m h) (by simp) .nil
  | nm => cases hc; exact .cons .nm (by simp) .nil
  | nl => cases hc; exact .cons .nl (by simp) .nil
  | f h1 h2 => cases hc; exact .cons (.f h1 h2) (by simp) .nil
  | y h => cases hc; exact .cons (.y h) (by simp) .nil
theorem fillC_S {place : Nat → Option (Nat × Nat)} : ∀ {ps : List (Nat × V)} {pv : List (Nat × Value)} {l l' : List V} {vs : List Value}, fillC place l ps = some l' → RpC D ρ vs l → pv.map (·.1) = ps.map (·.1) → RpL D ρ (pv.map (·.2)) (ps.map (·.2)) →
    ∃ vs', fillL place vs pv = some vs' ∧ RpC D ρ vs' l'
  | [], pv, l, l', vs, hf, hr, h1, h2 => by
    cases pv with
    | nil => cases hf; exact ⟨vs, rfl, hr⟩
    | cons _ _ => simp at h1
  | (i, x) :: ps, pv, l, l', vs, hf, hr, h1, h2 => by
    cases pv with
    | nil => simp at h1
    | cons p pv =>
      obtain ⟨i', v⟩ := p
      simp only [List.map_cons, List.cons.injEq] at h1
      obtain ⟨rfl, h1⟩ := h1
      cases h2 with
      | cons hv h2 =>
        simp only [fillC] at hf
        split at hf
        · rename_i o s xs hp hc
          have hcc := cellsV_S hc hv
          cases hb : Nat.beq (wds xs) s with
          | false => rw [hb] at hf; cases hf
          | true =>
            rw [hb] at hf
            simp only [cond_true] at hf
            split at hf
            · rename_i l1 hl1
              obtain ⟨g1, g2⟩ := putC_S hcc hl1 hr
              obtain ⟨vs', g3, g4⟩ := fillC_S hf g2 h1 h2
              refine ⟨vs', ?_, g4⟩
              have e1 : Nat.beq v.cells.toList.length s = true := by rw [wds_len hcc]; exact hb
              simp only [fillL, hp, e1, Nat.ble_eq_true_of_le g1, Bool.and_self, cond_true]
              exact g3
            · cases hf
        · cases hf
theorem fixN_S : ∀ {l : List V} {ss : List Nat} {vs : List Value}, RpC D ρ vs l → RpC D ρ vs (fixN ss l)
  | [], ss, vs, hr => by cases ss <;> exact hr
  | x :: l, ss, vs, hr => by
    cases hr with
    | n hl b => cases ss <;> exact .n hl (fixN_S b)
    | cons a n b =>
      cases ss with
      | nil => cases x <;> first | exact absurd rfl (n _ _ _) | exact .cons a n b
      | cons s ss =>
        cases x <;> first
          | exact absurd rfl (n _ _ _)
          | exact .cons a n (fixN_S b)
          | (cases a; exact .cons .nl (by simp) (fixN_S b))
theorem intsOf_S : ∀ {w : Nat} {l r : List V} {xs : List Int} {vs : List Value}, intsOf w l = some (xs, r) → RpC D ρ vs l → ∃ s, vs = xs.map (.int .i64) ++ s ∧ xs.length = w ∧ RpC D ρ s r
  | 0, l, r, xs, vs, h, hr => by simp only [intsOf, Option.some.injEq, Prod.mk.injEq] at h; obtain ⟨rfl, rfl⟩ := h; exact ⟨vs, rfl, rfl, hr⟩
  | w + 1, [], r, xs, vs, h, hr => by simp [intsOf] at h
  | w + 1, x :: l, r, xs, vs, h, hr => by
    unfold intsOf at h
    split at h
    · rename_i heq; cases heq
    · rename_i w' y l' heq1 heq2
      cases heq1
      cases heq2
      split at h
      · rename_i xs' r' h2
        cases h
        cases hr with
        | cons a n b =>
          obtain ⟨s, rfl, h3, h4⟩ := intsOf_S h2 b
          exact ⟨s, by rw [u_int a]; rfl, by simp [h3], h4⟩
      · cases h
    · cases h
theorem group_S : ∀ {ws : List Nat} {l : List V} {vs : List Value}, RpC D ρ vs l → RpC D ρ vs (group ws l)
  | [], l, vs, hr => hr
  | _ :: _, [], vs, hr => hr
  | w :: ws, x :: l, vs, hr => by
    simp only [group]
    cases hb : Nat.beq w 1 with
    | true =>
      simp only [cond_true]
      cases hr with
      | cons a n b => exact .cons a n (group_S b)
      | n hl b => exact .n hl (group_S b)
    | false =>
      simp only [cond_false]
      split
      · cases hr with
        | cons a n b => exact absurd rfl (n _ _ _)
        | n hl b => exact .n hl (group_S b)
      · split
        · rename_i xs r h2
          obtain ⟨s, rfl, h3, h4⟩ := intsOf_S h2 hr
          exact .n h3 (group_S h4)
        · exact hr
theorem asD_S {v : Value} {x : V} (hv : Rp D ρ v x) : Rp D ρ v (asD x) := by
  cases x <;> first | exact hv | (cases hv; exact .u (.nil _ _ _))
theorem asD_n {x : V} (h : ∀ k w l, x ≠ .n k w l) : ∀ k w l, asD x ≠ .n k w l := by
  intro k w l
  cases x <;> first | exact h k w l | simp [asD]
theorem datL_S : ∀ {l : List V} {vs : List Value}, RpC D ρ vs l → RpC D ρ vs (datL l)
  | _, _, .nil => .nil
  | _, _, .cons a n b => .cons (asD_S a) (asD_n n) (datL_S b)
  | _, _, .n hl b => .n hl (datL_S b)
theorem datV_S {v : Value} {x : V} (hv : Rp D ρ v x) : Rp D ρ v (datV x) := by
  cases x <;> first | exact asD_S hv | (cases hv with | a h => exact .a (datL_S h))
theorem normC_S {S : TypeId} {l : List V} {vs : List Value} (hr : RpC D ρ vs l) : RpC D ρ vs (normC P S l) := group_S (fixN_S hr)
theorem Rd.cap {a : Option Addr} {n c sz : Nat} {rows : List (List U)} (x : Rd D (.slice a n c) (.l sz rows)) : Rd D (.slice a n n) (.l sz rows) := by
  cases x with
  | nil => exact .nil _ _ _
  | row b o c arr T f rows sz v h1 h2 h3 h4 h5 => exact .row b o _ arr T f rows sz v h1 (Nat.le_refl _) h3 h4 h5
theorem Rd.part3 {a : Option Addr} {n c sz l r : Nat} {rows : List (List U)} (x : Rd D (.slice a n c) (.l sz rows)) (hl : l ≤ r) (hr : r ≤ n) : Rd D (.slice (slA a r l sz) (subN r l) (subN r l)) (.l sz ((rows.take r).drop l)) := by
  have h1 := (x.part (l := 0) (r := r) (Nat.zero_le _) hr).cap
  have h2 := h1.part (l := l) (r := r) hl (Nat.le_refl _)
  rw [List.drop_zero, List.take_take, Nat.min_self] at h2
  exact h2
theorem quiet_S {o : Oper} {KS : V → Prop} (hs : quietS P t m o KS) (M : SAt D ρ m chs C h) (F : RpL D ρ T t) :
    ∃ v x, KS x ∧ Rp D ρ v x ∧ ∀ w, pureOp o = true ∨ Hs D chs (srcOf t o) w → (execOp (ev T) o).run P w = .ok (.value v) w := by
  obtain ⟨dst, op, ty, pos, after, guard⟩ := o
  cases op <;> simp only [quietS] at hs
  case move x => exact ⟨_, _, hs, ev_S F x, fun w _ => rfl⟩
  case assign x => exact ⟨_, _, hs, ev_S F x, fun w _ => rfl⟩
  case pick c a b =>
    unfold pickS at hs
    have hc := ev_S F c
    split at hs
    · rename_i c' he
      rw [he] at hc
      have hc := u_bool hc
      have ha := ev_S F a
      have hb := ev_S F b
      split at hs
      · rename_i x y h1 h2
        rw [h1] at ha; rw [h2] at hb
        refine ⟨.bool (cond c' x y), _, hs, .u (.bool _), fun w _ => ?_⟩
        simp only [execOp, hc, u_bool ha, u_bool hb]
        cases c' <;> rfl
      · cases c'
        · exact ⟨_, _, hs, hb, fun w _ => by simp [execOp, hc, asBool]⟩
        · exact ⟨_, _, hs, ha, fun w _ => by simp [execOp, hc, asBool]⟩
    · exact hs.elim
  case nilCheck x =>
    have hx := ev_S F x
    split at hs
    · rename_i p he
      rw [he] at hx
      obtain ⟨c, rfl, hK⟩ := oP_spec hs
      obtain ⟨p, o, hr, hv⟩ := hx.p_inv
      exact ⟨_, _, hK, .q (o' := o) hr rfl 0, fun w _ => by simp [execOp, hv]⟩
    · rename_i g a c he
      rw [he] at hx
      obtain ⟨xs, ys, hv, -, -⟩ := hx.f_inv
      exact ⟨_, _, hs, hx, fun w _ => by simp [execOp, hv]⟩
    · obtain ⟨h1, hK⟩ := cond_spec hs
      refine ⟨_, _, hK, hx, fun w _ => ?_⟩
      have := hx.ptr h1
      obtain ⟨a, ha⟩ := this
      simp [execOp, ha]
  case binOp op' S x y yt =>
    obtain ⟨v, hv, hr⟩ := bin_run (x := x) (y := y) (bin_S hs (ev_S F x) (ev_S F y))
    exact ⟨v, _, hv, absV_S v, fun w _ => by
      have := hr w
      simp only [execOp]
      rw [Sem.run_bind, this]
      rfl⟩
  case unOp op' S x =>
    split at hs
    · rename_i a he
      obtain ⟨v, hv, hr⟩ := XWp.sound hs
      refine ⟨v, _, hv, absV_S v, fun w _ => ?_⟩
      simp only [execOp, conc1_S he (ev_S F x)]
      rw [Sem.run_bind, hr w]; rfl
    · exact hs.elim
  case convert s d x =>
    split at hs
    · rename_i a he
      obtain ⟨v, hv, hr⟩ := XWp.sound hs
      refine ⟨v, _, hv, absV_S v, fun w _ => ?_⟩
      simp only [execOp, conc1_S he (ev_S F x)]
      rw [Sem.run_bind, hr w]; rfl
    · exact hs.elim
  case makeFunc fn a c =>
    cases fn with
    | func g =>
      refine ⟨_, _, hs, .f (evL_S F a.toList) (evL_S F c.toList), fun w _ => ?_⟩
      have e : ∀ (l : Array Operand), l.map (ev T) = (l.toList.map (ev T)).toArray := fun l => by cases l; simp
      simp only [execOp, Instr.makeFunc, e]
      rfl
    | _ => exact hs.elim
  case fieldAddr S x f =>
    split at hs
    · rename_i fs hu
      split at hs
      · rename_i fd hfd
        obtain ⟨hz, hs⟩ := nz_spec hs
        obtain ⟨i, hi, his⟩ := lay1_some hz
        have run : ∀ {b o : Nat} (w : World), ev T x = .pointer (some ⟨b, o, none⟩) → (execOp (ev T) ⟨dst, .fieldAddr S x f, ty, pos, after, guard⟩).run P w = .ok (.value (.pointer (some ⟨b, o + fd.offset, none⟩))) w := fun w ha => by
          simp [execOp, Instr.fieldAt, ha, run_underlying hu, hfd, Instr.sureAddr, fieldPlace, run_sizeOf1 hi, his, hz, add_plain]
        have hx := ev_S F x
        unfold ptrAdd at hs
        split at hs
        · rename_i b o he
          rw [he] at hx
          obtain ⟨L, h1, hv⟩ := hx.r_inv
          rw [addO_eq] at hs
          exact ⟨_, _, hs, .r h1, fun w _ => run w hv⟩
        · rename_i b sz k o he
          rw [he] at hx
          obtain ⟨L, p, q, h1, h2, h3, h4, hv⟩ := hx.e_inv
          rw [addO_eq] at hs
          exact ⟨_, _, hs, .e h1 h2 h3 h4, fun w _ => by rw [run w hv, Nat.add_assoc]⟩
        · rename_i c o he
          rw [he] at hx
          obtain ⟨p, o', h1, hv⟩ := hx.q_inv
          rw [addO_eq] at hs
          exact ⟨_, _, hs, .q h1 rfl _, fun w _ => by rw [run w hv, Nat.add_assoc]⟩
        · rename_i p he
          rw [he] at hx
          obtain ⟨c, rfl, hK⟩ := oP_spec hs
          obtain ⟨p, o, h1, hv⟩ := hx.p_inv
          exact ⟨_, _, hK, .q h1 rfl _, fun w _ => run w hv⟩
        · exact hs.elim
      · exact hs.elim
    · exact hs.elim
  case field S x f =>
    have hx := ev_S F x
    split at hs
    · rename_i fs l hu he
      rw [he] at hx
      split at hs
      · rename_i fd hfd
        obtain ⟨vs, hv, hc⟩ := hx.a_inv
        · split at hs
          · rename_i z v r hS hd
            obtain ⟨hk, hK⟩ := cond_spec hs
            obtain ⟨p, s, rfl, hp, hr⟩ := dropC_S hd hc
            cases hr with
            | @cons vv _ vvs _ a n b =>
              refine ⟨_, _, hK, a, fun w _ => ?_⟩
              simp only [execOp, Instr.field, hv, asAgg, run_underlying hu, hfd, Sem.run_bind, Result.andThen_ok, Sem.run_pure]
              rw [run_pt1 (layS_one hS) (v := vv) (by simp [← hp]) w]
              rfl
            | n hl b => simp [shOk] at hk
          · rename_i zs r hS hd
            split at hs
            · rename_i vs' hv'
              obtain ⟨p, s, rfl, hp, hr⟩ := dropC_S hd hc
              obtain ⟨p2, s2, rfl, hp2, hr2⟩ := prefC_S hv' hr
              obtain ⟨cs, h1, h2⟩ := layS_many hS
              refine ⟨_, _, hs, .a hr2, fun w _ => ?_⟩
              simp only [execOp, Instr.field, hv, asAgg, run_underlying hu, hfd, Sem.run_bind, Result.andThen_ok, Sem.run_pure]
              rw [← hp, run_ptN h1 (by rw [hp2, h2]) w]
              rfl
            · exact hs.elim
          · exact hs.elim
      · exact hs.elim
    · exact hs.elim
  case indexAddr S x i =>
    have hx := asD_S (ev_S F x)
    have hi := ev_S F i
    split at hs
    · rename_i k z hei
      rw [hei] at hi
      have hi := u_int hi
      split at hs
      · rename_i e s rows hu he
        rw [he] at hx
        obtain ⟨hc, hs2⟩ := cond_spec hs
        simp only [Bool.and_eq_true, Bool.not_eq_true'] at hc
        have hse := Nat.eq_of_beq_eq_true hc.1
        subst hse
        obtain ⟨h0, r, hr, hK⟩ := elL_spec hs2
        have hne : lay1 P e ≠ 0 := fun h0 => by rw [h0] at hc; simp at hc
        obtain ⟨a, c, hv, hrd⟩ := hx.l_inv
        · obtain ⟨b, o, ha, hpp, -⟩ := hrd.at hr
          have hlt := (List.getElem?_eq_some_iff.1 hr).1
          exact ⟨_, _, hK, .q hpp rfl 0, fun w _ => by simp [execOp, hv, hi, run_indexAt hu h0 (show z < (rows.length : Int) by omega) ha hne]⟩
      · rename_i e s rows hu he
        rw [he] at hx
        obtain ⟨hc, hs2⟩ := cond_spec hs
        simp only [Bool.and_eq_true, Bool.not_eq_true'] at hc
        have hse := Nat.eq_of_beq_eq_true hc.1
        subst hse
        obtain ⟨h0, r, hr, hK⟩ := elL_spec hs2
        have hne : lay1 P e ≠ 0 := fun h0 => by rw [h0] at hc; simp at hc
        obtain ⟨a, hv, hrd⟩ := hx.c_inv
        · obtain ⟨b, o, ha, hpp, -⟩ := hrd.at hr
          have hlt := (List.getElem?_eq_some_iff.1 hr).1
          exact ⟨_, _, hK, .q hpp rfl 0, fun w _ => by simp [execOp, hv, hi, run_indexAt hu h0 (show z < (rows.length : Int) by omega) ha hne]⟩
      · rename_i e b hu he
        rw [he] at hx
        split at hs
        · rename_i E sz rows hm
          obtain ⟨hc, h0, h1, hK⟩ := cond_spec hs
          simp only [Bool.and_eq_true, Bool.not_eq_true'] at hc
          have hse := Nat.eq_of_beq_eq_true hc.1
          subst hse
          have hne : lay1 P e ≠ 0 := fun h0 => by rw [h0] at hc; simp at hc
          obtain ⟨L, ch, g1, g2, g3⟩ := M.get (b := b) (by rw [hm]; simp)
          rw [hm] at g3
          obtain ⟨L', hL, hv⟩ := hx.w_inv
          · rw [g1] at hL; cases hL
            cases g3 with
            | w own hn =>
              have : ∃ p q, L.a = some ⟨p, q, none⟩ := by
                generalize L.a = A, L.c = c at own
                cases own with
                | nil => simp at h1; omega
                | row => exact ⟨_, _, rfl⟩
              obtain ⟨p, q, hA⟩ := this
              refine ⟨_, _, hK, .e g1 hA h0 (by rw [hn]; exact h1), fun w _ => ?_⟩
              simp [execOp, hv, hi, run_indexAt hu h0 (show z < (L.n : Int) by omega) hA hne]
        · exact hs.elim
      · rename_i n e b o hu he
        rw [he] at hx
        split at hs
        · rename_i cells hm
          obtain ⟨L, ch, g1, g2, g3⟩ := M.get (b := b) (by rw [hm]; simp)
          rw [hm] at g3
          obtain ⟨L', hL, hv⟩ := hx.r_inv
          · rw [g1] at hL; cases hL
            split at hs
            · rename_i k' w' l r hd
              obtain ⟨hc, h0, h1, hK⟩ := cond_spec hs
              simp only [Bool.and_eq_true] at hc
              have e1 := Nat.eq_of_beq_eq_true hc.1
              have e2 := Nat.eq_of_beq_eq_true hc.2
              refine ⟨_, _, hK, .g g1 h0 (by omega), fun w _ => ?_⟩
              simp [execOp, hv, hi, run_indexAt_arr hu h0 h1 rfl (show lay1 P e ≠ 0 by omega), e2]
            · split at hs
              · rename_i j _
                obtain ⟨hc, hs⟩ := cond_spec hs
                obtain ⟨hne, hK⟩ := nz_spec hs
                have := Nat.le_of_ble_eq_true hc
                refine ⟨_, _, hK, .r g1, fun w _ => ?_⟩
                have := run_indexAt_arr (P := P) (k := k) (z := (Int.ofNat j)) hu (Int.natCast_nonneg j) (Int.ofNat_lt.2 this) (a := some ⟨L.b, o, none⟩) rfl hne w
                simp only [execOp, hv, hi]
                rw [Sem.run_bind, this]
                rfl
              · exact hs.elim
            · exact hs.elim
        · exact hs.elim
      · rename_i n e c o hu he
        rw [he] at hx
        obtain ⟨hne, hs⟩ := nz_spec hs
        obtain ⟨j, rfl, this, hK⟩ := idxK_spec hs
        obtain ⟨p, o2, hrd, hv⟩ := hx.q_inv
        refine ⟨_, _, hK, .q hrd rfl _, fun w _ => ?_⟩
        have := run_indexAt_arr (P := P) (k := k) (z := (Int.ofNat j)) hu (Int.natCast_nonneg j) (Int.ofNat_lt.2 this) (a := some ⟨p, o2 + o, none⟩) rfl hne w
        simp only [execOp, hv, hi]
        rw [Sem.run_bind, this]
        simp [Nat.add_assoc]
      · exact hs.elim
    · exact hs.elim
  case index S x i =>
    have hx := ev_S F x
    have hi := ev_S F i
    split at hs
    · rename_i k z hei
      rw [hei] at hi
      have hi := u_int hi
      split at hs
      · rename_i s hu he
        rw [he] at hx
        obtain ⟨h0, h1, hK⟩ := hs
        refine ⟨_, _, hK, .u (.int _ _), fun w _ => yp ?_ w⟩
        simp only [pureK, hu, u_str hx, hi]
        exact ⟨h0, h1, trivial⟩
      · rename_i n e l hu he
        rw [he] at hx
        split at hs
        · rename_i zs us hz hcu
          obtain ⟨hc, hs⟩ := cond_spec hs
          have hn := Nat.eq_of_beq_eq_true hc
          obtain ⟨h0, r, hr, hs⟩ := elL_spec hs
          obtain ⟨r', hl, hg, hK⟩ := dUs_spec hs
          obtain ⟨vs, hv, hcc⟩ := hx.a_inv
          · have hrd := RpC.toU hcu hcc
            obtain ⟨hlt, hd⟩ := chunk_get hr
            have hb : (z.toNat + 1) * zs.length ≤ us.length := by rw [hn]; exact Nat.mul_le_mul_right _ (by omega)
            obtain ⟨v, hv1, hrun⟩ := part_S (P := P) (ρ := ρ) hz hrd hb hd hl hg
            obtain ⟨inf, hinf, hsz⟩ := zeros_info hz
            refine ⟨v, _, hK, hv1, fun w _ => ?_⟩
            simp only [execOp, Instr.index, hv, hi, asIntOf, Sem.run_bind, Sem.run_pure, Result.andThen_ok, run_underlying hu]
            rw [if_pos ⟨h0, by omega⟩]
            simp only [Sem.run_bind, run_sizeOf1 hinf, Result.andThen_ok, hsz, hrun w]
        · exact hs.elim
      · exact hs.elim
    · exact hs.elim
  case extract x i =>
    have hx := ev_S F x
    split at hs
    · rename_i l he
      rw [he] at hx
      obtain ⟨hc, hK⟩ := cond_spec hs
      have := Nat.le_of_ble_eq_true hc
      obtain ⟨vs, hv, hl⟩ := hx.t_inv
      have hlt : i < vs.length := by rw [hl.len']; omega
      exact ⟨vs[i], _, hK, hl.at (List.getElem?_eq_getElem hlt), fun w _ => by simp [execOp, Instr.extract, hv, hlt]⟩
    · exact hs.elim
  case build S ps =>
    have hps : RpL D ρ ((ps.toList.map fun p => (p.1, ev T p.2)).map (·.2)) ((ps.toList.map fun p => (p.1, evS t p.2)).map (·.2)) := by
      have h := evL_S F (ps.toList.map (·.2)); rw [List.map_map, List.map_map] at h; rw [List.map_map, List.map_map]; exact h
    have hpm : (ps.toList.map fun p => (p.1, ev T p.2)).map (·.1) = (ps.toList.map fun p => (p.1, evS t p.2)).map (·.1) := by simp [List.map_map, Function.comp_def]
    have hpa : (ps.map fun (x : Nat × Operand) => (x.1, ev T x.2)).toList = ps.toList.map fun p => (p.1, ev T p.2) := by simp
    split at hs
    · rename_i inf fs hi hu
      split at hs
      · rename_i cs hz
        obtain ⟨hl, hs⟩ := cond_spec hs
        split at hs
        · rename_i l hf
          obtain ⟨vs', hf', hr⟩ := fillC_S hf (normC_S (ofV1L_S cs.toList)) hpm hps
          refine ⟨_, _, hs, .a (normC_S hr), fun w _ => yp ?_ w⟩
          simp only [pureK, hu, hi, hz, hl, cond_true, hf']
        · exact hs.elim
      · exact hs.elim
    · rename_i inf n e hi hu
      split at hs
      · rename_i cs hz
        obtain ⟨hne, hs⟩ := nz_spec hs
        split at hs
        · rename_i l hf
          obtain ⟨vs', hf', hr⟩ := fillC_S hf (normC_S (ofV1L_S cs.toList)) hpm hps
          refine ⟨_, _, hs, .a (normC_S hr), fun w _ => ?_⟩
          obtain ⟨i2, hi2, his2⟩ := lay1_some hne
          have hzero : (zeroValue S).run P w = .ok (.agg cs) w := by simp [zeroValue, run_typeInfo w hi, hz]
          have hfill := fill_list hf'
          simp only [Array.toArray_toList] at hfill
          simp only [execOp, Instr.build, Sem.run_bind, hzero, Result.andThen_ok, run_underlying hu, run_sizeOf1 hi2, his2]
          show Result.andThen (Sem.run P (match Instr.fill (fun i => some (i * lay1 P e, lay1 P e)) cs (ps.map fun (x : Nat × Operand) => (x.1, ev T x.2)).toList with
            | some cells => pure (Value.agg cells) | _ => stuck "build: a part of the wrong size") w) _ = _
          rw [hpa, hfill]
          rfl
        · exact hs.elim
      · exact hs.elim
    · exact hs.elim
  case slice S x lo hi mx =>
    have hx := asD_S (ev_S F x)
    split at hs
    · rename_i s hu he
      rw [he] at hx
      split at hs
      · rename_i l r hl hr
        have key := leK_mono (B := l ≤ r ∧ r ≤ s.size ∧ True) hs fun hh => ⟨hh.1, hh.2.1, trivial⟩
        refine ⟨_, _, (leK_spec (bnd_S F hl) hs).2.2.2, .u (.str _), fun w _ => yp ?_ w⟩
        simp only [pureK, hu, u_str hx, bnd_S F hl, bnd_S F hr]
        exact key
      · exact hs.elim
    · rename_i e s rows hu he
      rw [he] at hx
      obtain ⟨hc, hs2⟩ := cond_spec hs
      simp only [Bool.and_eq_true, Bool.not_eq_true'] at hc
      have hse := Nat.eq_of_beq_eq_true hc.1
      subst hse
      have hne : lay1 P e ≠ 0 := fun h0 => by rw [h0] at hc; simp at hc
      have hnz : ∀ {A : Prop}, A → nz (lay1 P e) A := fun hA => by
        unfold nz
        rw [show Nat.beq (lay1 P e) 0 = false from hc.2]; exact hA
      obtain ⟨a, c, hv, hrd⟩ := hx.l_inv
      have hcap := hrd.len.2
      split at hs2
      · rename_i l r hl hr
        obtain ⟨h0, h1, h2, hK⟩ := leK_spec (bnd_S F hl) hs2
        have hpart := Rd.part hrd (l := l.toNat) (r := r.toNat) (by omega) (by omega)
        refine ⟨_, _, hK, .u hpart, fun w _ => yp ?_ w⟩
        simp only [pureK, hu, hv, bnd_S F hl, bnd_S F hr]
        exact leK_mono hs2 fun hh => ⟨hh.1, by omega, hnz trivial⟩
      · rename_i mx l r hl hr
        split at hs2
        · rename_i k kk hm
          obtain ⟨hhi, hs3⟩ := cond_spec hs2
          obtain ⟨h0, h1, h2, h3, hK⟩ := leK_spec (bnd_S F hl) hs3
          subst h3
          have hmx : bnd T (some mx) 0 = some kk := bnd_S F (by simp [bndS, hm])
          refine ⟨_, _, hK, .c (a := slA a kk.toNat l.toNat (lay1 P e)) (n := subN kk.toNat l.toNat) ?_, fun w _ => yp ?_ w⟩
          · exact hrd.part3 (by omega) (by omega)
          · simp only [pureK, hu, hv, bnd_S F hl, bnd_S F hr, hmx, hhi, cond_true]
            exact leK_mono hs3 fun hh => ⟨hh.1, Int.le_refl _, by omega, hnz trivial⟩
        · exact hs2.elim
      · exact hs2.elim
    · exact hs.elim
  case load S a =>
    obtain ⟨bb, oo, v, x, hv, hK, hr, hrun⟩ := sLoad_S hs M (ev_S F a) (bs := srcOf t ⟨dst, .load S a, ty, pos, after, guard⟩) fun b hb => by
      rw [inL_iff]; simp [srcOf, Op.operands, refsL, hb]
    exact ⟨v, x, hK, hr, fun w hw => by
      have hw := hw.resolve_left (by simp [pureOp])
      simp [execOp, Instr.loadAt, Instr.sureAddr, hv, hrun w hw]⟩
  case call c =>
    obtain ⟨callee, args, argTypes⟩ := c
    simp only at hs
    split at hs
    · split at hs
      · rename_i x S hax hat
        obtain ⟨hc, hs⟩ := cond_spec hs
        have hx := ev_S F x
        have ha1 : args = #[x] := by rw [← Array.toArray_toList (xs := args), hax]
        have ha2 : argTypes = #[S] := by rw [← Array.toArray_toList (xs := argTypes), hat]
        subst ha1 ha2
        have sl : ∀ {a : Option Addr} {n c : Nat} {e : TypeId}, P.underlying S = some (.slice e) → ev T x = .slice a n c → ∀ w : World, (execOp (ev T) ⟨dst, .call ⟨.builtin .len, #[x], #[S]⟩, ty, pos, after, guard⟩).run P w = .ok (.value (.int .i64 n)) w :=
          fun hu hv w => by simp [execOp, resolve, invoke, Go.builtin, Builtin.len_, goInt, hv, run_underlying hu]
        unfold okLen at hc
        split at hc
        · rename_i s hu he
          rw [he] at hx hs
          refine ⟨_, _, hs, .u (.int _ _), fun w _ => ?_⟩
          simp [execOp, resolve, invoke, Go.builtin, Builtin.len_, goInt, u_str hx, run_underlying hu]
        · rename_i e s rows hu he
          rw [he] at hx hs
          obtain ⟨a, c, hv, -⟩ := hx.l_inv
          exact ⟨_, _, hs, .u (.int _ _), fun w _ => sl hu hv w⟩
        · rename_i e s rows hu he
          rw [he] at hx hs
          obtain ⟨a, hv, -⟩ := hx.c_inv
          exact ⟨_, _, hs, .u (.int _ _), fun w _ => sl hu hv w⟩
        · rename_i e hu he
          rw [he] at hx hs
          have hv : ev T x = .slice none 0 0 := by generalize ev T x = v at hx; cases hx; rfl
          exact ⟨_, _, hs, .u (.int _ _), fun w _ => sl hu hv w⟩
        · rename_i e b hu he
          rw [he] at hx hs
          obtain ⟨L, hL, hv⟩ := hx.w_inv
          simp only [lenS] at hs
          split at hs
          · rename_i E sz rows hm
            obtain ⟨L', ch, g1, g2, g3⟩ := M.get (b := b) (by rw [hm]; simp)
            rw [hL] at g1; cases g1
            rw [hm] at g3
            cases g3 with
            | w own hn => exact ⟨_, _, hs, .u (.int _ _), fun w _ => by rw [← hn]; exact sl hu hv w⟩
          · exact hs.elim
        · cases hc
      · exact hs.elim
    · split at hs
      · rename_i vs ha
        obtain ⟨v, hv, hr⟩ := XWp.sound hs
        refine ⟨v, _, hv, absV_S v, fun w _ => ?_⟩
        have e : args.map (ev T) = vs.toArray := by rw [← args_S F ha]; cases args; simp
        simp [execOp, resolve, invoke, Go.builtin, e, hr w]
      · exact hs.elim
    · split at hs
      · rename_i vs ha
        obtain ⟨v, hv, hr⟩ := XWp.sound hs
        refine ⟨v, _, hv, absV_S v, fun w _ => ?_⟩
        have e : args.map (ev T) = vs.toArray := by rw [← args_S F ha]; cases args; simp
        simp [execOp, resolve, invoke, Go.builtin, e, hr w]
      · exact hs.elim
    · exact hs.elim
end Go.Proofs.Ytljgfkiiikcaaaa

/- The symbolic engine, part f: memory; operations that turn it. -/
set_option linter.unusedVariables false
namespace Go.Proofs.Ytljgfkiiikcaaaa
open Go
variable {P : Program} {D D' : Fz} {ρ : List Loc} {m : Mem} {chs C : List Chunk} {h h' : Heap} {T : List Value} {t : List V}

/- ## Memory -/
theorem ms_len : ∀ (m : Mem) (b : Nat) (a : AB), (ms m b a).length = m.length
  | [], _, _ => rfl
  | _ :: _, 0, _ => rfl
  | y :: m, b + 1, a => by simp [ms, ms_len m b a]
theorem ms_eq : ∀ (m : Mem) (b : Nat) (a : AB), ms m b a = m.set b a
  | [], _, _ => rfl
  | _ :: _, 0, _ => rfl
  | y :: m, b + 1, a => by simp [ms, ms_eq m b a]
theorem mg_get (m : Mem) (i : Nat) : mg m i = (m[i]?).getD .x := by
  induction m generalizing i with
  | nil => rfl
  | cons a m ih => cases i with
    | zero => rfl
    | succ i => simpa [mg] using ih i
theorem mg_ms_ne {m : Mem} {b c : Nat} {a : AB} (hn : b ≠ c) : mg (ms m b a) c = mg m c := by rw [mg_get, mg_get, ms_eq, List.getElem?_set_ne hn]
theorem mg_ms {m : Mem} {b : Nat} {a : AB} (hb : b < m.length) : mg (ms m b a) b = a := by rw [mg_get, ms_eq, List.getElem?_set_self hb]; rfl
theorem mg_app {m s : Mem} {b : Nat} (hb : b < m.length) : mg (m ++ s) b = mg m b := by rw [mg_get, mg_get, List.getElem?_append_left hb]
theorem set_perm {α : Type} {l : List (List α)} {i : Nat} {c c' : List α} (hi : l[i]? = some c) : (l.set i c').flatten.Perm (c' :: l.eraseIdx i).flatten := by
  have hlt := (List.getElem?_eq_some_iff.1 hi).1
  have := perm_pick (C := l.set i c') (i := i) (c := c') (by rw [List.getElem?_set_self hlt])
  rwa [List.eraseIdx_set_eq] at this
theorem SAt.front (M : SAt D ρ m chs C h) {b : Nat} {ch : Chunk} (hc : chs[b]? = some ch) : St D (ch :: (chs ++ C).eraseIdx b) h := M.st.pick b (get_app hc)
/-- Block b becomes another one. -/
theorem SAt.put (M : SAt D ρ m chs C h) {b : Nat} {L : Loc} {ab : AB} {ch ch' : Chunk} (hL : ρ[b]? = some L) (hc : chs[b]? = some ch) {C' : List Chunk} (S : St D' (ch' :: (chs ++ C').eraseIdx b) h') (l : Le D D') (he : Ent D' ρ L ab ch') :
    SAt D' ρ (ms m b ab) (chs.set b ch') C' h' where
  len := by rw [ms_len]; exact M.len
  lch := by rw [ms_len, List.length_set]; exact M.lch
  ent i L' ab' ch'' h1 h2 h3 := by
    by_cases hi : b = i
    · subst hi
      have hlt : b < chs.length := (List.getElem?_eq_some_iff.1 hc).1
      rw [ms_eq, List.getElem?_set_self (by rw [← M.lch]; exact hlt)] at h2
      rw [List.getElem?_set_self hlt] at h3
      rw [hL] at h1
      cases h1; cases h2; cases h3
      exact he
    · rw [ms_eq, List.getElem?_set_ne hi] at h2
      rw [List.getElem?_set_ne hi] at h3
      have := (M.ent i L' ab' ch'' h1 h2 h3).mono l []
      rwa [List.append_nil] at this
  st := by
    have hlt : b < chs.length := (List.getElem?_eq_some_iff.1 hc).1
    refine S.perm ?_
    have := set_perm (l := chs ++ C') (c' := ch') (get_app hc)
    rw [List.set_append_left _ _ hlt] at this
    exact this.symm
theorem SAt.mono (M : SAt D ρ m chs C h) (l : Le D D') {C' : List Chunk} (S : St D' (chs ++ C') h') : SAt D' ρ m chs C' h' where
  len := M.len
  lch := M.lch
  ent i L ab ch h1 h2 h3 := by
    have := (M.ent i L ab ch h1 h2 h3).mono l []
    rwa [List.append_nil] at this
  st := S
/-- One more block. -/
theorem SAt.push {ch : Chunk} (M : SAt D ρ m chs (ch :: C) h) {L : Loc} {ab : AB} (he : Ent D (ρ ++ [L]) L ab ch) : SAt D (ρ ++ [L]) (m ++ [ab]) (chs ++ [ch]) C h where
  len := by simp [M.len]
  lch := by simp [M.lch]
  ent i L' ab' ch' h1 h2 h3 := by
    have hl := M.len
    have hc := M.lch
    by_cases hi : i < m.length
    · rw [List.getElem?_append_left (by omega)] at h1 h2 h3
      exact (M.ent i L' ab' ch' h1 h2 h3).mono (.refl D) [L]
    · have hlt := (List.getElem?_eq_some_iff.1 h2).1
      simp at hlt
      have hi : i = m.length := by omega
      subst hi
      rw [List.getElem?_append_right (by omega), ← hl] at h1
      rw [List.getElem?_append_right (by omega)] at h2
      rw [List.getElem?_append_right (by omega), ← hc] at h3
      simp at h1 h2 h3
      subst h1 h2 h3
      exact he
  st := M.st.perm (by simp [List.flatten_append])
/-- Block b is given up. -/
theorem SAt.drop (M : SAt D ρ m chs C h) (b : Nat) : SAt D ρ (ms m b .x) (chs.set b []) C h := by
  by_cases hb : b < m.length
  · have hr : b < ρ.length := by rw [M.len]; exact hb
    have hc : b < chs.length := by rw [M.lch]; exact hb
    exact M.put (List.getElem?_eq_getElem hr) (List.getElem?_eq_getElem hc) (M.front (List.getElem?_eq_getElem hc)).drop.nil (.refl D) .x
  · have e1 : ms m b .x = m := by rw [ms_eq]; exact List.set_eq_of_length_le (by omega)
    have e2 : chs.set b [] = chs := List.set_eq_of_length_le (by rw [M.lch]; omega)
    rw [e1, e2]; exact M
/-- What is next: more is frozen, there is more memory; what may not be written stays. -/
structure Nx (ro hr : List Nat) (D : Fz) (ρ : List Loc) (m : Mem) (chs : List Chunk) (D' : Fz) (ρ' : List Loc) (m' : Mem) (chs' : List Chunk) : Prop where
  le : Le D D'
  pre : ∃ s, ρ' = ρ ++ s
  keep : ∀ b, inL hr b = true → b < m.length → chs'[b]? = chs[b]?
  same : ∀ b, inL (hr ++ ro) b = true → b < m.length → mg m' b = mg m b
  len : m.length ≤ m'.length
variable {ro hr : List Nat}
theorem Nx.refl : Nx ro hr D ρ m chs D ρ m chs := ⟨.refl D, ⟨[], by simp⟩, fun _ _ _ => rfl, fun _ _ _ => rfl, Nat.le_refl _⟩
theorem Nx.trans {D1 D2 : Fz} {ρ1 ρ2 : List Loc} {m1 m2 : Mem} {c1 c2 : List Chunk} (a : Nx ro hr D ρ m chs D1 ρ1 m1 c1) (b : Nx ro hr D1 ρ1 m1 c1 D2 ρ2 m2 c2) : Nx ro hr D ρ m chs D2 ρ2 m2 c2 where
  le := a.le.trans b.le
  pre := by obtain ⟨s, rfl⟩ := a.pre; obtain ⟨s', rfl⟩ := b.pre; exact ⟨s ++ s', by simp⟩
  keep i h1 h2 := by rw [b.keep i h1 (Nat.lt_of_lt_of_le h2 a.len), a.keep i h1 h2]
  same i h1 h2 := by rw [b.same i h1 (Nat.lt_of_lt_of_le h2 a.len), a.same i h1 h2]
  len := Nat.le_trans a.len b.len
theorem inL_left {a b : List Nat} {i : Nat} (h : inL a i = true) : inL (a ++ b) i = true := by rw [inL_iff] at h ⊢; simp [h]
theorem Nx.set {b : Nat} {ab : AB} {ch : Chunk} (l : Le D D') (hb : inL (hr ++ ro) b = false) : Nx ro hr D ρ m chs D' ρ (ms m b ab) (chs.set b ch) where
  le := l
  pre := ⟨[], by simp⟩
  keep i h1 h2 := by rw [List.getElem?_set_ne]; rintro rfl; rw [inL_left h1] at hb; cases hb
  same i h1 h2 := mg_ms_ne (by rintro rfl; rw [h1] at hb; cases hb)
  len := by rw [ms_len]; exact Nat.le_refl _
theorem Nx.push (M : SAt D ρ m chs C h) {s : List Loc} {a : Mem} {c : List Chunk} (l : Le D D') : Nx ro hr D ρ m chs D' (ρ ++ s) (m ++ a) (chs ++ c) where
  le := l
  pre := ⟨s, rfl⟩
  keep i h1 h2 := List.getElem?_append_left (by rw [M.lch]; exact h2)
  same i h1 h2 := mg_app h2
  len := by simp
theorem Nx.rp {D' : Fz} {ρ' : List Loc} {m' : Mem} {chs' : List Chunk} (n : Nx ro hr D ρ m chs D' ρ' m' chs') {v : Value} {x : V} (hv : Rp D ρ v x) : Rp D' ρ' v x := by
  obtain ⟨s, rfl⟩ := n.pre; exact hv.mono n.le s
theorem Nx.rpL {D' : Fz} {ρ' : List Loc} {m' : Mem} {chs' : List Chunk} (n : Nx ro hr D ρ m chs D' ρ' m' chs') {v : List Value} {x : List V} (hv : RpL D ρ v x) : RpL D' ρ' v x := by
  obtain ⟨s, rfl⟩ := n.pre; exact hv.mono n.le s
theorem Nx.rpC {D' : Fz} {ρ' : List Loc} {m' : Mem} {chs' : List Chunk} (n : Nx ro hr D ρ m chs D' ρ' m' chs') {v : List Value} {x : List V} (hv : RpC D ρ v x) : RpC D' ρ' v x := by
  obtain ⟨s, rfl⟩ := n.pre; exact hv.mono n.le s
/-- What holds behind an operation. -/
def PostE (ro hr : List Nat) (D : Fz) (ρ : List Loc) (m : Mem) (chs C : List Chunk) (KS : V → Mem → Prop) (v : Value) (h' : Heap) : Prop :=
  ∃ D' ρ' m' chs' x, Nx ro hr D ρ m chs D' ρ' m' chs' ∧ SAt D' ρ' m' chs' C h' ∧ Rp D' ρ' v x ∧ KS x m'

/- ## One's own as data -/
theorem toU_S {v : Value} {x : V} {u : U} {m' : Mem} (hs : toU (hr ++ ro) m x = some (u, m')) (M : SAt D ρ m chs C h) (hv : Rp D ρ v x) :
    ∃ D' chs', Nx ro hr D ρ m chs D' ρ m' chs' ∧ SAt D' ρ m' chs' C h ∧ Rd D' v u := by
  unfold toU at hs
  split at hs
  · cases hs; cases hv with | u hv => exact ⟨D, chs, .refl, M, hv⟩
  · cases hs; cases hv with | c hv => exact ⟨D, chs, .refl, M, hv⟩
  · cases hs; cases hv; exact ⟨D, chs, .refl, M, .nil _ _ _⟩
  · cases hs
    obtain ⟨p, o, h1, rfl⟩ := hv.q_inv
    exact ⟨D, chs, .refl, M, h1⟩
  · rename_i b
    split at hs
    · rename_i E sz rows hm
      cases hb : inL (hr ++ ro) b with
      | true => rw [hb] at hs; cases hs
      | false =>
        rw [hb] at hs
        cases hs
        obtain ⟨L, ch, h1, h2, h3⟩ := M.get (b := b) (by rw [hm]; simp)
        obtain ⟨L', h4, rfl⟩ := hv.w_inv
        rw [h1] at h4; cases h4
        rw [hm] at h3
        cases h3 with
        | w own hn =>
          obtain ⟨D', l, S, hr⟩ := own.freeze (M.front h2)
          rw [hn]
          exact ⟨D', _, .set l hb, M.put h1 h2 S.nil l .x, hr⟩
    · cases hs
  · cases hs
theorem toUs_S : ∀ {xs : List V} {us : List U} {vs : List Value} {m m' : Mem} {D : Fz} {chs : List Chunk}, toUs (hr ++ ro) m xs = some (us, m') → SAt D ρ m chs C h → RpC D ρ vs xs →
    ∃ D' chs', Nx ro hr D ρ m chs D' ρ m' chs' ∧ SAt D' ρ m' chs' C h ∧ RdL D' vs us
  | [], us, vs, m, m', D, chs, hs, M, hv => by cases hs; cases hv; exact ⟨D, chs, .refl, M, .nil⟩
  | x :: xs, us, vs, m, m', D, chs, hs, M, hv => by
    simp only [toUs] at hs
    split at hs
    · rename_i u m1 h1
      split at hs
      · rename_i us' m2 h2
        cases hs
        cases hv with
        | cons a n b =>
          obtain ⟨D1, c1, n1, M1, r1⟩ := toU_S h1 M a
          obtain ⟨D2, c2, n2, M2, r2⟩ := toUs_S h2 M1 (n1.rpC b)
          exact ⟨D2, c2, n1.trans n2, M2, .cons (r1.mono n2.le) r2⟩
        | n hl b => simp [toU] at h1
      · cases hs
    · cases hs
theorem normV_S {S : TypeId} {v : Value} {x : V} (hv : Rp D ρ v x) : Rp D ρ v (normV P S x) := by
  unfold normV
  split
  · cases hv with | a h => exact .a (normC_S h)
  · split
    · cases hv; exact .nl
    · exact hv
  · exact hv
theorem vcells_S {S : TypeId} {v : Value} {x : V} {xs : List V} (hc : vcells P S x = some xs) (hv : Rp D ρ v x) : RpC D ρ v.cells.toList xs := cellsV_S hc (normV_S hv)
end Go.Proofs.Ytljgfkiiikcaaaa

/- The symbolic engine, part g: operations that turn the memory are told rightly. -/
set_option linter.unusedVariables false
namespace Go.Proofs.Ytljgfkiiikcaaaa
open Go
variable {P : Program} {D D' : Fz} {ρ : List Loc} {m : Mem} {chs C : List Chunk} {h h' : Heap} {T : List Value} {t : List V} {ro hr : List Nat}

/- ## Stores -/
theorem shOk_single {z : Value × Nat} {v : Value} {x : V} (hk : shOk z x = true) (hv : Rp D ρ v x) : single v = true := by
  obtain ⟨z, s⟩ := z
  unfold shOk at hk
  split at hk <;> first
    | (cases hk; done)
    | (cases hv with | u hr => cases hr <;> rfl)
    | (cases hv; rfl)
theorem shL_single : ∀ {xs : List V} {zs : List (Value × Nat)} {vs : List Value}, shL zs xs = true → RpC D ρ vs xs → vs.length = zs.length ∧ ∀ v ∈ vs, single v = true
  | [], zs, vs, hk, hv => by
    cases hv
    cases zs with
    | nil => exact ⟨rfl, by simp⟩
    | cons z zs => simp [shL] at hk
  | x :: xs, zs, vs, hk, hv => by
    cases hv with
    | n hl b =>
      rename_i k w l vs
      simp only [shL, Bool.and_eq_true] at hk
      obtain ⟨⟨⟨h1, h2⟩, h3⟩, h4⟩ := hk
      have := Nat.le_of_ble_eq_true h2
      obtain ⟨g1, g2⟩ := shL_single h4 b
      refine ⟨by simp at g1 ⊢; omega, fun v hv => ?_⟩
      rcases List.mem_append.1 hv with hv | hv
      · obtain ⟨i, -, rfl⟩ := List.mem_map.1 hv; rfl
      · exact g2 v hv
    | cons a n b =>
      cases zs with
      | nil => cases x <;> first | exact absurd rfl (n _ _ _) | simp [shL] at hk
      | cons z zs =>
        have : shOk z x = true ∧ shL zs xs = true := by cases x <;> first | exact absurd rfl (n _ _ _) | (simp only [shL, Bool.and_eq_true] at hk; exact hk)
        obtain ⟨g1, g2⟩ := shL_single this.2 b
        refine ⟨by simp [g1], fun v hv => ?_⟩
        rcases List.mem_cons.1 hv with rfl | hv
        · exact shOk_single this.1 a
        · exact g2 v hv
theorem cellsV_one {v : Value} {x : V} {xs : List V} (hc : cellsV x = some xs) (hn : ∀ l, x ≠ .a l) (hv : Rp D ρ v x) : v.cells.toList = [v] := by
  cases hv with
  | a => exact absurd rfl (hn _)
  | u hr => cases hr <;> rfl
  | z => cases hc
  | t => cases hc
  | _ => rfl
theorem cellsV_agg {v : Value} {l : List V} (hv : Rp D ρ v (.a l)) : ∃ vs, v = .agg vs := by obtain ⟨vs, rfl, -⟩ := hv.a_inv; exact ⟨_, rfl⟩
/-- The cells of a value, laid at a place. -/
theorem storeK_of {S : TypeId} {zs : List (Value × Nat)} (hz : zerosOf P S = some zs) {v : Value} {x : V} {xs : List V} (hv : Rp D ρ v x) (hc : cellsV x = some xs) (ha : aggOk P S x = true) {b o : Nat} {K : Heap → Prop} (hn : v.cells.toList.length = zs.length)
    (hK : storeS b o v.cells.toList 0 h K) : storeK P S (some ⟨b, o, none⟩) v h K := by
  unfold zerosOf at hz
  unfold storeK
  split at hz
  · rename_i z hl
    cases hz
    rw [layS_one hl]
    have hx : ∀ l, x ≠ .a l := fun l e => by subst e; simp [aggOk, hl] at ha
    rw [cellsV_one hc hx hv] at hK
    exact hK
  · rename_i zs' hl
    cases hz
    obtain ⟨cs, h1, h2⟩ := layS_many hl
    rw [h1]
    have hx : ∃ l, x = .a l := by
      unfold aggOk at ha
      rw [hl] at ha
      cases x <;> first | exact ⟨_, rfl⟩ | simp at ha
    obtain ⟨l, rfl⟩ := hx
    obtain ⟨vs, rfl⟩ := cellsV_agg hv
    show cond (Nat.beq cs.length vs.toList.length) (storeS b o vs.toList 0 h K) False
    have : Nat.beq cs.length vs.toList.length = true := by rw [h2, ← hn]; exact Nat.beq_refl _
    rw [this]; exact hK
  · cases hz
theorem usp_eq : ∀ (l : List U) (o : Nat) (us : List U), o + us.length ≤ l.length → usp l o us = l.take o ++ us ++ l.drop (o + us.length)
  | l, o, [], h => by cases l <;> cases o <;> simp [usp]
  | [], o, u :: us, h => by simp at h
  | x :: l, 0, u :: us, h => by
    simp only [usp]
    rw [usp_eq l 0 us (by simp at h ⊢; omega)]
    simp
  | x :: l, o + 1, u :: us, h => by
    simp only [usp]
    rw [usp_eq l o (u :: us) (by simp at h ⊢; omega)]
    simp [show o + 1 + (us.length + 1) = (o + (us.length + 1)) + 1 by omega]
theorem usp_len (l : List U) (o : Nat) (us : List U) (h : o + us.length ≤ l.length) : (usp l o us).length = l.length := by rw [usp_eq l o us h]; simp; omega
theorem usp_get (l : List U) (o : Nat) (us : List U) (h : o + us.length ≤ l.length) (j : Nat) : (usp l o us)[j]? = if j < o then l[j]? else if j < o + us.length then us[j - o]? else l[j]? := by
  rw [usp_eq l o us h]
  have hl : (l.take o).length = o := by simp; omega
  split
  · rename_i hj; rw [List.append_assoc, List.getElem?_append_left (by omega), List.getElem?_take_of_lt hj]
  · rename_i hj
    split
    · rename_i hj2; rw [List.append_assoc, List.getElem?_append_right (by omega), hl, List.getElem?_append_left (by omega)]
    · rename_i hj2
      rw [List.getElem?_append_right (by simp; omega), List.getElem?_drop]
      congr 1
      simp [hl]; omega
/-- Part of an element of an own row is written anew. -/
theorem Own.poke {E sz c p q i o : Nat} {a : Option Addr} {rows : List (List U)} {r us : List U} {vs : List Value} {ch : Chunk} {CC : List Chunk} {K : Heap → Prop} (x : Own D E sz a c rows ch) (S : St D (ch :: CC) h) (ha : a = some ⟨p, q, none⟩) (hi : rows[i]? = some r)
    (hv : RdL D vs us) (ho : o + us.length ≤ sz) (hK : ∀ ch' h', Own D E sz a c (rows.set i (usp r o us)) ch' → St D (ch' :: CC) h' → K h') : storeS p (q + i * sz + o) vs 0 h K := by
  subst ha
  cases x with
  | row b c arr rows v h1 h2 h3 h4 h5 =>
    obtain ⟨l⟩ := arr
    have hil := (List.getElem?_eq_some_iff.1 hi).1
    have hrl : r.length = sz := h3 r (List.mem_of_getElem? hi)
    have hsz : i * sz + sz ≤ l.length := by
      have h1' : l.length = c * sz := by simpa using h1
      rw [h1']
      have := Nat.mul_le_mul_right sz (show i + 1 ≤ c by omega)
      rwa [Nat.succ_mul] at this
    have hvl := hv.len
    refine S.st0 (Nat.ble_eq_true_of_le (by omega)) (List.all_eq_true.2 hv.single) fun h' S' => ?_
    have hl0 : 0 + i * sz + o + 0 + vs.length ≤ l.length := by omega
    refine hK _ h' (.row p c _ _ (fun k j => if k = i ∧ o ≤ j ∧ j < o + us.length then vs.getD (j - o) undef else v k j) ?_ (by simpa using h2) ?_ ?_ ?_) S'
    · simp only [List.size_toArray, splice_length]; simpa using h1
    · intro r' hr'
      rcases List.mem_or_eq_of_mem_set hr' with hr' | rfl
      · exact h3 r' hr'
      · rw [usp_len _ _ _ (by omega), hrl]
    · intro k j r' u hk hu
      simp only [List.getElem?_toArray]
      rw [splice_get _ _ _ _ hl0]
      by_cases hki : k = i
      · subst hki
        rw [List.getElem?_set_self hil] at hk
        cases hk
        have hj : j < sz := by have := (List.getElem?_eq_some_iff.1 hu).1; rwa [usp_len _ _ _ (by omega), hrl] at this
        rw [usp_get _ _ _ (by omega)] at hu
        by_cases c1 : j < o
        · rw [if_pos (by omega), if_neg (by omega)]
          rw [if_pos c1] at hu
          simpa using h4 k j r u hi hu
        · by_cases c2 : j < o + us.length
          · rw [if_neg (by omega), if_pos (by omega), if_pos ⟨rfl, by omega, c2⟩]
            rw [show k * sz + j - (0 + k * sz + o + 0) = j - o by omega]
            have : j - o < vs.length := by omega
            simp [this]
          · rw [if_neg (by omega), if_neg (by omega), if_neg (by omega)]
            rw [if_neg c1, if_neg c2] at hu
            simpa using h4 k j r u hi hu
      · rw [List.getElem?_set_ne (Ne.symm hki)] at hk
        have hj : j < sz := by have := (List.getElem?_eq_some_iff.1 hu).1; rwa [h3 r' (List.mem_of_getElem? hk)] at this
        have hd : k * sz + sz ≤ i * sz ∨ i * sz + sz ≤ k * sz := by
          rcases Nat.lt_or_gt_of_ne hki with hlt | hlt
          · have := Nat.mul_le_mul_right sz (show k + 1 ≤ i by omega); rw [Nat.succ_mul] at this; exact .inl this
          · have := Nat.mul_le_mul_right sz (show i + 1 ≤ k by omega); rw [Nat.succ_mul] at this; exact .inr this
        have := h4 k j r' u hk hu
        simp only [List.getElem?_toArray] at this
        simp only [hki, false_and, if_false]
        rcases hd with hd | hd
        · rw [if_pos (by omega)]; exact this
        · rw [if_neg (by omega), if_neg (by omega)]; exact this
    · intro k j r' u hk hu
      by_cases hki : k = i
      · subst hki
        rw [List.getElem?_set_self hil] at hk
        cases hk
        rw [usp_get _ _ _ (by omega)] at hu
        by_cases c1 : j < o
        · rw [if_neg (by omega)]; rw [if_pos c1] at hu; exact h5 k j r u hi hu
        · by_cases c2 : j < o + us.length
          · rw [if_pos ⟨rfl, by omega, c2⟩]
            rw [if_neg c1, if_pos c2] at hu
            obtain ⟨w, hw, hr⟩ := hv.get hu
            simp only [List.getD_eq_getElem?_getD, hw, Option.getD_some]; exact hr
          · rw [if_neg (by omega)]; rw [if_neg c1, if_neg c2] at hu; exact h5 k j r u hi hu
      · rw [List.getElem?_set_ne (Ne.symm hki)] at hk
        simp only [hki, false_and, if_false]; exact h5 k j r' u hk hu
theorem usp_all (r us : List U) (h : us.length = r.length) : usp r 0 us = us := by rw [usp_eq _ _ _ (by omega)]; simp [h]

/-- A store. -/
theorem sStore_S {S : TypeId} {a x : V} {va vx : Value} {KS : Mem → Prop} {K : Heap → Prop} (hs : sStore P (hr ++ ro) S a x m KS) (M : SAt D ρ m chs C h) (ha : Rp D ρ va a) (hx : Rp D ρ vx x)
    (hK : ∀ D' m' chs' h', Nx ro hr D ρ m chs D' ρ m' chs' → SAt D' ρ m' chs' C h' → KS m' → K h') : ∃ ad, va = .pointer ad ∧ storeK P S ad vx h K := by
  unfold sStore at hs
  split at hs
  · rename_i zs xs hz hvc
    obtain ⟨hk, hs2⟩ := cond_spec hs
    clear hs
    have hs := hs2
    clear hs2
    simp only [Bool.and_eq_true] at hk
    have hnx := normV_S (P := P) (S := S) hx
    have hcx := vcells_S hvc hx
    obtain ⟨g1, g2⟩ := shL_single hk.1 hcx
    have sk : ∀ {b o : Nat}, storeS b o vx.cells.toList 0 h K → storeK P S (some ⟨b, o, none⟩) vx h K := fun hh => storeK_of hz hnx hvc hk.2 g1 hh
    split at hs
    · rename_i b o
      cases hb : inL (hr ++ ro) b with
      | true => rw [hb] at hs; exact hs.elim
      | false =>
        rw [hb] at hs
        simp only [cond_false] at hs
        split at hs
        · rename_i cells hm
          split at hs
          · rename_i l hp
            obtain ⟨L, hL, rfl⟩ := ha.r_inv
            obtain ⟨L', ch, h1, h2, h3⟩ := M.get (b := b) (by rw [hm]; simp)
            rw [hL] at h1; cases h1
            rw [hm] at h3
            cases h3 with
            | c hc =>
              rename_i arr S'
              obtain ⟨p1, p2⟩ := putC_S hcx hp hc
              refine ⟨_, rfl, sk ((M.front h2).st0 (l := arr) (Nat.ble_eq_true_of_le (by omega)) (List.all_eq_true.2 g2) fun h' S' => ?_)⟩
              rw [Nat.add_zero] at S'
              exact hK D _ _ h' (.set (.refl D) hb) (M.put hL h2 S' (.refl D) (.c p2)) hs
          · exact hs.elim
        · exact hs.elim
    · rename_i b o w k
      cases hb : inL (hr ++ ro) b with
      | true => rw [hb] at hs; exact hs.elim
      | false =>
        rw [hb] at hs
        simp only [cond_false] at hs
        split at hs
        · rename_i cells y hm
          split at hs
          · rename_i k' w' l r hd
            obtain ⟨hw, hs2⟩ := cond_spec hs
            clear hs
            simp only [Bool.and_eq_true] at hw
            have := Nat.eq_of_beq_eq_true hw.1
            have hk3 : k' = .i64 := by
              have := hw.2
              cases k' <;> first | rfl | simp [kindNo] at this
            subst this hk3
            split at hs2
            · rename_i l' hp
              obtain ⟨L, hL, k0, k1, rfl⟩ := ha.g_inv
              obtain ⟨L', ch, h1, h2, h3⟩ := M.get (b := b) (by rw [hm]; simp)
              rw [hL] at h1; cases h1
              rw [hm] at h3
              cases h3 with
              | c hc =>
                rename_i arr S'
                have hvy : vx.cells.toList = [.int .i64 y] := by
                  generalize vx.cells.toList = q at hcx
                  cases hcx with
                  | cons a n b => cases b; rw [u_int a]
                obtain ⟨pp, ss, rfl, hpp, hrr⟩ := dropC_S hd hc
                cases hrr with
                | cons a n b => exact absurd rfl (n _ _ _)
                | @n _ _ _ vs _ hl b =>
                  have hnew : RpC D ρ ((l.set k.toNat y).map (.int .i64)) [.n .i64 w (l.set k.toNat y)] := by
                    have := RpC.n (D := D) (ρ := ρ) (k := .i64) (w := w) (l := l.set k.toNat y) (vs := []) (xs := []) (by simp [hl]) .nil
                    simpa using this
                  obtain ⟨p1, p2⟩ := putC_S hnew hp hc
                  refine ⟨_, rfl, sk ((M.front h2).st0 (l := pp ++ (l.map (.int .i64) ++ vs)) (Nat.ble_eq_true_of_le (by rw [hvy]; simp [hpp, hl]; omega)) (List.all_eq_true.2 g2) fun h' S' => ?_)⟩
                  rw [Nat.add_zero, hvy] at S'
                  have e : splice (pp ++ (l.map (.int .i64) ++ vs)) (o + k.toNat) [.int .i64 y] = splice (pp ++ (l.map (.int .i64) ++ vs)) o ((l.set k.toNat y).map (.int .i64)) := by
                    apply List.ext_getElem?
                    intro j
                    rw [splice_get _ _ _ _ (by simp [hpp, hl]; omega), splice_get _ _ _ _ (by simp [hpp, hl])]
                    simp only [List.length_map, List.length_set, List.length_cons, List.length_nil, hl]
                    by_cases c1 : j < o
                    · rw [if_pos (by omega), if_pos c1]
                    · rw [if_neg c1]
                      by_cases c2 : j < o + w
                      · rw [if_pos c2, List.getElem?_map, List.getElem?_set]
                        by_cases c3 : j = o + k.toNat
                        · subst c3
                          rw [if_neg (by omega), if_pos (by omega), if_pos (by omega), if_pos (by omega)]
                          simp
                        · have c4 : (pp ++ (l.map (Value.int .i64) ++ vs))[j]? = (l.map (Value.int .i64))[j - o]? := by
                            rw [List.getElem?_append_right (by omega), hpp, List.getElem?_append_left (by simp; omega)]
                          rw [if_neg (show ¬ k.toNat = j - o by omega), c4, List.getElem?_map]
                          by_cases c5 : j < o + k.toNat
                          · rw [if_pos c5]
                          · rw [if_neg c5, if_neg (by omega)]
                      · rw [if_neg c2, if_neg (by omega), if_neg (by omega)]
                  rw [e] at S'
                  exact hK D _ _ h' (.set (.refl D) hb) (M.put hL h2 S' (.refl D) (.c p2)) hs2
            · exact hs2.elim
          · exact hs.elim
        · exact hs.elim
    · rename_i b sz k o
      cases hb : inL (hr ++ ro) b with
      | true => rw [hb] at hs; exact hs.elim
      | false =>
        rw [hb] at hs
        simp only [cond_false] at hs
        split at hs
        · rename_i us m1 hu
          obtain ⟨D1, c1, n1, M1, r1⟩ := toUs_S hu M hcx
          obtain ⟨L, p, q, hL, hA, k0, k1, rfl⟩ := ha.e_inv
          split at hs
          · rename_i E sz' rows hm
            obtain ⟨hw, hs2⟩ := cond_spec hs
            clear hs
            have := Nat.eq_of_beq_eq_true hw
            subst this
            obtain ⟨L', ch, h1, h2, h3⟩ := M1.get (b := b) (by rw [hm]; simp)
            rw [hL] at h1; cases h1
            rw [hm] at h3
            cases h3 with
            | w own hn =>
              have hlt : k.toNat < rows.length := by omega
              have hrl : rows[k.toNat].length = sz := by
                generalize L.a = A, L.c = cc at own
                cases own with
                | nil => simp at hlt
                | row b c arr rows v g1 g2 g3 g4 g5 => exact g3 _ (List.getElem_mem _)
              have go : ∀ r : List U, rows[k.toNat]? = some r → o + us.length ≤ sz → KS (ms m1 b (.w E sz (rows.set k.toNat (usp r o us)))) → ∃ ad, Value.pointer (some ⟨p, q + k.toNat * sz + o, none⟩) = .pointer ad ∧ storeK P S ad vx h K := fun r hr hle hk => by
                refine ⟨_, rfl, sk (own.poke (M1.front h2) hA hr r1 hle fun ch' h' own' S' => ?_)⟩
                exact hK D1 _ _ h' (n1.trans (.set (.refl _) hb)) (M1.put hL h2 S' (.refl _) (.w own' (by rw [hn, List.length_set]))) hk
              cases hc : (Nat.beq o 0 && Nat.beq us.length sz) with
              | true =>
                rw [hc] at hs2
                simp only [Bool.and_eq_true] at hc
                have e1 := Nat.eq_of_beq_eq_true hc.1
                have e2 := Nat.eq_of_beq_eq_true hc.2
                subst e1
                exact go _ (List.getElem?_eq_getElem hlt) (by omega) (by rw [usp_all _ _ (by rw [e2, hrl])]; exact hs2)
              | false =>
                rw [hc] at hs2
                obtain ⟨hle, hs3⟩ := cond_spec hs2
                obtain ⟨-, r, hr, hk⟩ := elL_spec hs3
                exact go r hr (Nat.le_of_ble_eq_true hle) hk
          · exact hs.elim
        · exact hs.elim
    · exact hs.elim
  · exact hs.elim
end Go.Proofs.Ytljgfkiiikcaaaa
