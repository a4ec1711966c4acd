/- The symbolic engine, part g: operations that turn the memory are told rightly. -/
import Derived.Test.YtaogfopaalancaaDoorHk1
import Derived.Laws.BytesString
/- The symbolic engine, part a: abstract values and memory; code over them (definitions alone). -/
set_option linter.unusedVariables false
namespace Go.Proofs.YtaogfopaalancaaDoor
open Go
inductive V where
 | u (x : U)
 | r (b o : Nat)
 | e (b sz : Nat) (k : Int) (o : Nat)
 | g (b o w : Nat) (k : Int)
 | q (c : List U) (o : Nat)
 | w (b : Nat)
 | c (sz : Nat) (rows : List (List U))
 | m (b : Nat)
 | nm
 | nl (s : Nat)
 | f (g : FuncId) (a c : List V)
 | a (l : List V)
 | t (l : List V)
 | n (k : IntKind) (w : Nat) (l : List Int)
 | z
 | y (b : Nat)
 /-- Of an own row's n elements from l on; c: there is room for no more. -/
 | v (b sz l n : Nat) (c : Bool)
 /-- n elements that stand in a block of cells, from o on. -/
 | sl (b o n : Nat)
abbrev V.i (n : Int) : V := .u (.i .i64 n)
abbrev V.l (s : Nat) (x : List (List U)) : V := .u (.l s x)
structure Bd where
 T : TypeId
 E : TypeId
 l : List Nat
abbrev byteC (l : List Nat) : List Value := l.map fun n => Value.int .u8 (.ofNat n)
def Bd.f (x : Bd) (_ : Fz) (b : Nat) (ch : Chunk) : Prop :=
 (∀ n ∈ x.l, n < 256) ∧ ∃ p, (p = Value.pointer none ∨ p = .pointer (some ⟨b, 0, none⟩)) ∧
  ((x.l = [] ∧ ch = [(b, .cells #[p, .slice none 0 0] x.T (0, 0))]) ∨
   ∃ (g c : Nat) (ps : List Value), x.l.length ≤ c ∧ c ≤ maxLen ∧ (byteC x.l).length + ps.length = c ∧
     ch = [(b, .cells #[p, .slice (some ⟨g, 0, none⟩) x.l.length c] x.T (0, 0)), (g, .cells (byteC x.l ++ ps).toArray x.E (0, 0))])
structure Ob where
 f : Fz → Nat → Chunk → Prop
 mono : ∀ {D D' : Fz} {b : Nat} {c : Chunk}, f D b c → Le D D' → f D' b c
 d : Option Bd := none
 hd : ∀ {x : Bd}, d = some x → f = x.f := by intro x h; cases h
def Ob.bd (x : Bd) : Ob where
 f := x.f
 mono := fun h _ => h
 d := some x
 hd := by intro y h; cases h; rfl
def Ob.si (s : ByteArray) (p : Nat) : Ob where
 f := fun _ b ch => ch = [(b, .stringIter s p)]
 mono := fun h _ => h
inductive AB where
 | c (l : List V)
 | w (E sz : Nat) (rows : List (List U))
 | o (I : Ob)
 | p (kt : KT) (sz : Nat) (ag : Bool) (rows : List (MK × List U))
 | tk
 | x
 /-- n elements of a row of one's own whose cells are not only data. -/
 | cw (E sz n : Nat) (l : List V)
abbrev Mem := List AB
def vget : List V → Nat → V
 | [], _ => .z
 | v :: _, 0 => v
 | _ :: l, n + 1 => vget l n
def vset : List V → Nat → V → List V
 | [], _, _ => []
 | _ :: l, 0, v => v :: l
 | x :: l, n + 1, v => x :: vset l n v
def vput (t : List V) (d : Option Tmp) (v : V) : List V :=
 match d with
 | some i => vset t i v
 | none => t
def mg : Mem → Nat → AB
 | [], _ => .x
 | a :: _, 0 => a
 | _ :: l, n + 1 => mg l n
def ms : Mem → Nat → AB → Mem
 | [], _, _ => []
 | _ :: l, 0, v => v :: l
 | y :: l, n + 1, v => y :: ms l n v
def ug : List U → Nat → Option U
 | [], _ => none
 | v :: _, 0 => some v
 | _ :: l, n + 1 => ug l n
def ofV1 : Value → V
 | .int k n => .u (.i k n)
 | .bool c => .u (.b c)
 | .string s => .u (.s s)
 | .pointer none => .u (.p none)
 | .slice none 0 0 => .nl 0
 | .map none => .nm
 | .func (.func g) ⟨[]⟩ ⟨[]⟩ => .f g [] []
 | _ => .z
def ofV : Value → V
 | .agg cs => .a (cs.toList.map ofV1)
 | v => ofV1 v
def evS (t : List V) : Operand → V
 | .tmp i => vget t i
 | .const v => ofV v
 | .func f => .f f [] []
 | .global _ => .z
def conc1 : V → Option Value
 | .u (.i k n) => some (.int k n)
 | .u (.b c) => some (.bool c)
 | .u (.s s) => some (.string s)
 | _ => none
def concL : List V → Option (List Value)
 | [] => some []
 | v :: l => match conc1 v, concL l with
   | some x, some xs => some (x :: xs)
   | _, _ => none
def conc : V → Option Value
 | .a l => match concL l with
   | some xs => some (.agg xs.toArray)
   | none => none
 | v => conc1 v
def wd : V → Nat
 | .n _ w _ => w
 | _ => 1
def dropC : Nat → List V → Option (List V)
 | 0, l => some l
 | _ + 1, [] => none
 | o + 1, x :: l => cond (Nat.ble (wd x) (o + 1) && !Nat.beq (wd x) 0) (dropC (o + 1 - wd x) l) none
termination_by structural _ l => l
def prefC : Nat → List V → Option (List V)
 | 0, _ => some []
 | _ + 1, [] => none
 | n + 1, x :: l => cond (Nat.ble (wd x) (n + 1) && !Nat.beq (wd x) 0) (match prefC (n + 1 - wd x) l with | some r => some (x :: r) | none => none) none
termination_by structural _ l => l
def wds : List V → Nat
 | [] => 0
 | x :: l => wd x + wds l
def putC (new : List V) : Nat → List V → Option (List V)
 | 0, l => match dropC (wds new) l with | some r => some (new ++ r) | none => none
 | _ + 1, [] => none
 | o + 1, x :: l => cond (Nat.ble (wd x) (o + 1) && !Nat.beq (wd x) 0) (match putC new (o + 1 - wd x) l with | some r => some (x :: r) | none => none) none
termination_by structural _ l => l
def intsOf : Nat → List V → Option (List Int × List V)
 | 0, l => some ([], l)
 | n + 1, .u (.i .i64 x) :: l => match intsOf n l with | some (xs, r) => some (x :: xs, r) | none => none
 | _ + 1, _ => none
def wl (P : Program) : Nat → TypeId → List Nat
 | 0, _ => [1]
 | d + 1, T => match P.underlying T with
   | some (.struct fs) => fs.toList.flatMap fun f => wl P d f.type
   | some (.array n e) => match P.underlying e with
     | some (.int .i64) => cond (Nat.ble 9 n) [n] (List.replicate n 1)
     | _ => (List.replicate n (wl P d e)).flatten
   | _ => [1]
def group : List Nat → List V → List V
 | [], l => l
 | _ :: _, [] => []
 | w :: ws, x :: l => cond (Nat.beq w 1) (x :: group ws l) (match x with
   | .n k w' xs => .n k w' xs :: group ws l
   | x => match intsOf w (x :: l) with
     | some (xs, r) => .n .i64 w xs :: group ws r
     | none => x :: l)
def leafs (P : Program) : Nat → TypeId → List Nat
 | 0, _ => [0]
 | d + 1, T => match P.underlying T with
   | some (.struct fs) => fs.toList.flatMap fun f => leafs P d f.type
   | some (.array n e) => (List.replicate n (leafs P d e)).flatten
   | some (.slice e) => [lay1 P e]
   | _ => [0]
def fixN : List Nat → List V → List V
 | s :: ss, .nl _ :: l => .nl s :: fixN ss l
 | ss, .n k w x :: l => .n k w x :: fixN (ss.drop w) l
 | _ :: ss, x :: l => x :: fixN ss l
 | [], l => l
 | _, [] => []
termination_by structural _ l => l
def normC (P : Program) (T : TypeId) (l : List V) : List V := group (wl P 9 T) (fixN (leafs P 9 T) l)
def normV (P : Program) (T : TypeId) : V → V
 | .a l => .a (normC P T l)
 | .nl s' => match leafs P 9 T with
   | s :: _ => .nl s
   | [] => .nl s'
 | v => v
def asD : V → V
 | .nl s => .u (.l s [])
 | v => v
def datL : List V → List V
 | [] => []
 | v :: l => asD v :: datL l
def datV : V → V
 | .a l => .a (datL l)
 | v => asD v
def datA : AB → AB
 | .c l => .c (datL l)
 | a => a
def shOk : Value × Nat → V → Bool
 | (.int k _, _), .u (.i k' _) => Nat.beq (kindNo k) (kindNo k')
 | (.bool _, _), .u (.b _) => true
 | (.string _, _), .u (.s _) => true
 | (.slice .., s), .u (.l s' _) => Nat.beq s s'
 | (.slice .., _), .w _ => true
 | (.slice .., s), .c s' _ => Nat.beq s s'
 | (.slice .., s), .nl s' => Nat.beq s s'
 | (.slice .., s), .v _ s' _ _ _ => Nat.beq s s'
 | (.slice .., _), .sl .. => true
 | (.pointer _, _), .u (.p _) => true
 | (.pointer _, _), .r .. => true
 | (.pointer _, _), .e .. => true
 | (.pointer _, _), .g .. => true
 | (.pointer _, _), .q .. => true
 | (.map _, _), .m _ => true
 | (.map _, _), .nm => true
 | (.nilFunc, _), .f .. => true
 | _, _ => false
def isI64 : Value × Nat → Bool
 | (.int .i64 _, _) => true
 | _ => false
def shL : List (Value × Nat) → List V → Bool
 | [], [] => true
 | zs, .n k w _ :: l => Nat.beq (kindNo k) 3 && Nat.ble w zs.length && (zs.take w).all isI64 && shL (zs.drop w) l
 | z :: zs, v :: l => shOk z v && shL zs l
 | _, _ => false
termination_by structural _ l => l
inductive LayS where
 | one (z : Value × Nat)
 | many (zs : List (Value × Nat))
def layS (P : Program) (T : TypeId) : Option LayS :=
 match layOf P T, leafs P 9 T with
 | some (.one z), s :: _ => some (.one (z, s))
 | some (.many zs), ss => cond (Nat.beq zs.length ss.length) (some (.many (zs.zip ss))) none
 | _, _ => none
def elL {α : Type} (l : List α) (k : Int) (K : α → Prop) : Prop :=
 match k with
 | .ofNat i => match l[i]? with | some r => K r | none => False
 | .negSucc _ => False
def oP {α : Type} (o : Option α) (K : α → Prop) : Prop :=
 match o with
 | some c => K c
 | none => False
def dI (k : IntKind) (o : Option U) (K : Int → Prop) : Prop :=
 match o with
 | some (.i k' n) => kindEq k k' (K n)
 | _ => False
def dB (o : Option U) (K : Bool → Prop) : Prop :=
 match o with
 | some (.b c) => K c
 | _ => False
def dS (o : Option U) (K : ByteArray → Prop) : Prop :=
 match o with
 | some (.s c) => K c
 | _ => False
def dL (s : Nat) (o : Option U) (K : List (List U) → Prop) : Prop :=
 match o with
 | some (.l s' c) => cond (Nat.beq s s') (K c) False
 | _ => False
def dP (o : Option U) (K : Option (List U) → Prop) : Prop :=
 match o with
 | some (.p c) => K c
 | _ => False
def dU (z : Value × Nat) (o : Option U) (K : U → Prop) : Prop :=
 match z.1 with
 | .int k _ => dI k o fun n => K (.i k n)
 | .bool _ => dB o fun c => K (.b c)
 | .string _ => dS o fun c => K (.s c)
 | .slice .. => dL z.2 o fun c => K (.l z.2 c)
 | .pointer _ => dP o fun c => K (.p c)
 | _ => False
def dUs : List (Value × Nat) → List U → Nat → (List U → Prop) → Prop
 | [], _, _, K => K []
 | z :: zs, r, o, K => dU z (ug r o) fun u => dUs zs r (o + 1) fun us => K (u :: us)
def apOk (a b : List (List U)) : Prop := a.length + b.length ≤ 1000000
def absV : Value → V
 | .int k n => .u (.i k n)
 | .bool c => .u (.b c)
 | .string s => .u (.s s)
 | _ => .z
def ptrAdd (x : V) (n : Nat) (K : V → Prop) : Prop :=
 match x with
 | .r b o => K (.r b (addO o n))
 | .e b sz k o => K (.e b sz k (addO o n))
 | .q c o => K (.q c (addO o n))
 | .u (.p p) => oP p fun c => K (.q c n)
 | _ => False
def isPtr : V → Bool
 | .r .. => true
 | .e .. => true
 | .g .. => true
 | .q .. => true
 | _ => false
def binS (P : Program) (op : BinOp) (T : TypeId) (x y : V) (K : V → Prop) : Prop :=
 match conc x, conc y with
 | some a, some b => binK P op T a b fun v => K (absV v)
 | _, _ => match y with
   | .u (.p none) => match P.underlying T with
     | some (.pointer _) => (match x with
       | .u (.p p) => nilEq op p.isNone fun v => K (absV v)
       | x => cond (isPtr x) (nilEq op false fun v => K (absV v)) False)
     | _ => False
   | .nm => match P.underlying T with
     | some (.map ..) => (match x with
       | .m _ => nilEq op false fun v => K (absV v)
       | .nm => nilEq op true fun v => K (absV v)
       | _ => False)
     | _ => False
   | _ => False
def pickS (c a b : V) (K : V → Prop) : Prop :=
 match c with
 | .u (.b c) => match a, b with
   | .u (.b x), .u (.b y) => K (.u (.b (cond c x y)))
   | _, _ => cond c (K a) (K b)
 | _ => False
def lenS (m : Mem) : V → (Int → Prop) → Prop
 | .u (.s x), K => K x.size
 | .u (.l _ r), K => K r.length
 | .c _ r, K => K r.length
 | .nl _, K => K 0
 | .w b, K => match mg m b with
   | .w _ _ r => K r.length
   | .cw _ _ n _ => K n
   | _ => False
 | .m b, K => match mg m b with
   | .p _ _ _ r => K r.length
   | _ => False
 | .nm, K => K 0
 | .v _ _ _ n _, K => K n
 | .sl _ _ n, K => K n
 | _, _ => False
def okLen : Option TypeDesc → V → Bool
 | some .string, .u (.s _) => true
 | some (.slice _), .u (.l _ _) => true
 | some (.slice _), .c _ _ => true
 | some (.slice _), .nl _ => true
 | some (.slice _), .w _ => true
 | some (.slice _), .v .. => true
 | some (.slice _), .sl .. => true
 | some (.map ..), .m _ => true
 | some (.map ..), .nm => true
 | _, _ => false
def bndS (t : List V) (x : Option Operand) (d : Int) : Option Int :=
 match x with
 | none => some d
 | some x => match evS t x with
   | .u (.i _ i) => some i
   | _ => none
def cellU : List V → Option (List U)
 | [] => some []
 | .u x :: l => match cellU l with | some us => some (x :: us) | none => none
 | .nl s :: l => match cellU l with | some us => some (.l s [] :: us) | none => none
 | _ :: _ => none
def chunk : Nat → Nat → List U → List (List U)
 | 0, _, _ => []
 | n + 1, sz, l => l.take sz :: chunk n sz (l.drop sz)
def oneA (P : Program) (e : TypeId) (us : List V) : V :=
 match layS P e, us with
 | some (.one _), v :: _ => v
 | _, us => .a us
def argsI (t : List V) : List Operand → Option (List Value)
 | [] => some []
 | x :: l => match conc1 (evS t x), argsI t l with
   | some v, some vs => some (v :: vs)
   | _, _ => none
def cellsV : V → Option (List V)
 | .a l => some l
 | .z => none
 | .n .. => none
 | .t _ => none
 | v => some [v]
def vcells (P : Program) (T : TypeId) (v : V) : Option (List V) := cellsV (normV P T v)
def fillC (place : Nat → Option (Nat × Nat)) : List V → List (Nat × V) → Option (List V)
 | l, [] => some l
 | l, (i, v) :: rest => match place i, cellsV v with
   | some (o, s), some xs => cond (Nat.beq (wds xs) s) (match putC xs o l with | some l' => fillC place l' rest | none => none) none
   | _, _ => none
def zerosOf (P : Program) (T : TypeId) : Option (List (Value × Nat)) :=
 match layS P T with
 | some (.one z) => some [z]
 | some (.many zs) => some zs
 | none => none
def load1 (z : Value × Nat) (a : V) (m : Mem) (K : V → Prop) : Prop :=
 match a with
 | .r b o => match mg m b with
   | .c cells => match dropC o cells with
     | some (v :: _) => cond (shOk z v) (K v) False
     | _ => False
   | _ => False
 | .g b o w k => match mg m b with
   | .c cells => match dropC o cells with
     | some (.n k' w' l :: _) => cond (Nat.beq w w' && Nat.beq (kindNo k') 3 && isI64 z) (elL l k fun n => K (.u (.i .i64 n))) False
     | _ => False
   | _ => False
 | .e b sz k o => match mg m b with
   | .w _ sz' rows => cond (Nat.beq sz sz') (elL rows k fun r => dU z (ug r o) fun u => K (.u u)) False
   | .cw _ sz' _ cells => cond (Nat.beq sz sz') (match dropC (k.toNat * sz + o) cells with
     | some (v :: _) => cond (shOk z v) (K v) False
     | _ => False) False
   | _ => False
 | .q c o => dU z (ug c o) fun u => K (.u u)
 | .u (.p p) => oP p fun c => dU z (ug c 0) fun u => K (.u u)
 | _ => False
def loadN (zs : List (Value × Nat)) (a : V) (m : Mem) (K : V → Prop) : Prop :=
 match a with
 | .r b o => match mg m b with
   | .c cells => match dropC o cells with
     | some l => match prefC zs.length l with
       | some vs => cond (shL zs vs) (K (.a vs)) False
       | none => False
     | none => False
   | _ => False
 | .e b sz k o => match mg m b with
   | .w _ sz' rows => cond (Nat.beq sz sz') (elL rows k fun r => dUs zs r o fun us => K (.a (us.map .u))) False
   | .cw _ sz' _ cells => cond (Nat.beq sz sz') (match dropC (k.toNat * sz + o) cells with
     | some l => match prefC zs.length l with
       | some vs => cond (shL zs vs) (K (.a vs)) False
       | none => False
     | none => False) False
   | _ => False
 | .q c o => dUs zs c o fun us => K (.a (us.map .u))
 | .u (.p p) => oP p fun c => dUs zs c 0 fun us => K (.a (us.map .u))
 | _ => False
def sLoad (P : Program) (T : TypeId) (a : V) (m : Mem) (K : V → Prop) : Prop :=
 match layS P T with
 | some (.one z) => load1 z a m K
 | some (.many zs) => loadN zs a m K
 | none => False
def eqI : List Int → List Int → Bool
 | [], [] => true
 | a :: l, b :: r => (a == b) && eqI l r
 | _, _ => false
def intsA : List V → Option (List Int)
 | [] => some []
 | .u (.i .i64 n) :: l => match intsA l with | some r => some (n :: r) | none => none
 | .n .i64 _ xs :: l => match intsA l with | some r => some (xs ++ r) | none => none
 | _ :: _ => none
def arrN (P : Program) (T : TypeId) : Option Nat :=
 match P.underlying T with
 | some (.array ..) => (match ktOf P T with
   | some (.a n) => some n
   | _ => none)
 | some (.struct fs) => cond (flat P fs.toList 0 || isI P T) none (numT P 6 T)
 | _ => none
def arrE (P : Program) (T : TypeId) (x y : V) : Option Bool :=
 match arrN P T, x, y with
 | some n, .a xs, .a ys => match intsA xs, intsA ys with
   | some a, some b => cond (Nat.beq (wds xs) n && Nat.beq (wds ys) n && !P.eqGuardType P.depth T) (some (eqI a b)) none
   | _, _ => none
 | _, _, _ => none
def idxK (i : Int) (n : Nat) (K : Nat → Prop) : Prop :=
 match i with
 | .ofNat j => cond (Nat.ble (j + 1) n) (K j) False
 | .negSucc _ => False
def rGet : List (MK × List U) → MK → Option (List U)
 | [], _ => none
 | p :: m, k => if p.1 = k then some p.2 else rGet m k
def rSet : List (MK × List U) → MK → List U → List (MK × List U)
 | [], k, v => [(k, v)]
 | p :: m, k, v => if p.1 = k then (k, v) :: m else p :: rSet m k v
def rDel : List (MK × List U) → MK → List (MK × List U)
 | [], _ => []
 | p :: m, k => if p.1 = k then m else p :: rDel m k
def mO {α : Type} (o : Option α) (A : α → Prop) (B : Prop) : Prop :=
 match o with
 | some r => A r
 | none => B
def ktEq : KT → KT → Bool
 | .n, .n => true
 | .s, .s => true
 | .a x, .a y => Nat.beq x y
 | _, _ => false
def mkIs : List V → Option (List Int)
 | [] => some []
 | .u (.i .i64 n) :: l => match mkIs l with | some r => some (n :: r) | none => none
 | _ :: _ => none
def mkOf : V → Option MK
 | .u (.i .i64 n) => some (.n n)
 | .u (.s b) => some (.s b)
 | .a l => match mkIs l with | some r => some (.a r) | none => none
 | _ => none
def isAg (P : Program) (T : TypeId) : Bool :=
 match layS P T with
 | some (.many _) => true
 | _ => false
def mapT (P : Program) (T : TypeId) : Option (KT × List (Value × Nat) × TypeId × V) :=
 match P.underlying T with
 | some (.map K E) => match ktOf P K, zerosOf P E, (P.info? E).bind (·.zero) with
   | some kt, some zs, some zv => some (kt, zs, E, normV P E (ofV zv))
   | _, _, _ => none
 | _ => none
def lookR (ok : Bool) (v : V) (b : Bool) : V := cond ok (.t [v, .u (.b b)]) v
def lookS (P : Program) (T : TypeId) (x k : V) (ok : Bool) (m : Mem) (K : V → Prop) : Prop :=
 match mapT P T, mkOf k with
 | some (kt, zs, E, zv), some k => cond (kt.has k) (match x with
   | .m b => match mg m b with
     | .p kt' sz ag rows => cond (ktEq kt kt' && Nat.beq sz zs.length && (ag == isAg P E)) (mO (rGet rows k) (fun r => dUs zs r 0 fun us => K (lookR ok (oneA P E (us.map .u)) true)) (K (lookR ok zv false))) False
     | _ => False
   | .nm => K (lookR ok zv false)
   | _ => False) False
 | _, _ => False
def nilOf (m : Mem) : V → Option (Bool × Bool)
 | .nl _ => some (true, false)
 | .u (.l _ rows) => some (rows.isEmpty, true)
 | .c _ rows => some (rows.isEmpty, true)
 | .w b => match mg m b with
   | .w _ _ rows => some (rows.isEmpty, true)
   | _ => none
 | .v _ _ _ n _ => some (Nat.beq n 0, true)
 | .sl _ _ n => some (Nat.beq n 0, true)
 | _ => none
def nilSl (P : Program) (m : Mem) (T : TypeId) (x y : V) : Option (Bool × Bool) :=
 match y with
 | .nl _ => match P.underlying T with
   | some (.slice _) => nilOf m x
   | _ => none
 | _ => none
def nilR (op : BinOp) (r : Bool × Bool) (K : Value → Prop) : Prop :=
 match r with
 | (true, false) => nilEq op true K
 | (false, true) => nilEq op false K
 | (true, true) => nilEq op true K ∧ nilEq op false K
 | _ => False
def ltK (c : Bool) (r n : Int) (K : Prop) : Prop := cond c (r = n ∧ K) K
def viewS (P : Program) (t : List V) (e : TypeId) (lo hi mx : Option Operand) (b sz l n : Nat) (c : Bool) (K : V → Prop) : Prop :=
 cond (Nat.beq sz (lay1 P e) && !Nat.beq sz 0) (match mx, bndS t lo 0, bndS t hi n with
  | none, some l', some r => leK lo.isNone 0 l' (l' ≤ r ∧ r ≤ n ∧ ltK c r n (K (.v b sz (l + l'.toNat) (r.toNat - l'.toNat) c)))
  | some mx, some l', some r => match evS t mx with
    | .u (.i _ k) => cond hi.isSome (leK lo.isNone 0 l' (l' ≤ r ∧ r ≤ n ∧ k = r ∧ K (.v b sz (l + l'.toNat) (r.toNat - l'.toNat) true))) False
    | _ => False
  | _, _, _ => False) False
def srcS (m : Mem) : V → Option (Nat × List (List U))
 | .u (.l s r) => some (s, r)
 | .c s r => some (s, r)
 | .w b => match mg m b with
   | .w _ s r => some (s, r)
   | _ => none
 | .v b sz l n _ => match mg m b with
   | .w _ s r => cond (Nat.beq s sz) (some (s, (r.drop l).take n)) none
   | _ => none
 | _ => none
def byteR : List (List U) → Option (List Int)
 | [] => some []
 | [.i .u8 n] :: l => match byteR l with | some r => some (n :: r) | none => none
 | _ :: _ => none
def strOf (l : List Int) : ByteArray := l.foldl (fun r n => r.push (UInt8.ofNat n.toNat)) ByteArray.empty
def strR (P : Program) (s d : TypeId) (m : Mem) (v : V) : Option V :=
 match P.underlying s, P.underlying d with
 | some (.slice e), some .string => (match P.underlying e, srcS m v with
   | some (.int .u8), some (1, rows) => (match byteR rows with
     | some ns => some (.u (.s (strOf ns)))
     | none => none)
   | _, _ => none)
 | _, _ => none
def pureS (o : Oper) : Bool := pureOp o && (match o.op with | .convert .. => false | _ => true)
def quietS (P : Program) (t : List V) (m : Mem) (o : Oper) (K : V → Prop) : Prop :=
 match o.op with
 | .move x | .assign x => K (evS t x)
 | .pick c a b => pickS (evS t c) (evS t a) (evS t b) K
 | .nilCheck x => match evS t x with
   | .u (.p p) => oP p fun c => K (.q c 0)
   | .f g a c => K (.f g a c)
   | x => cond (isPtr x) (K x) False
 | .binOp op T x y _ => match nilSl P m T (evS t x) (evS t y) with
   | some r => nilR op r fun v => K (absV v)
   | none => match arrE P T (evS t x) (evS t y) with
     | some c => nilEq op c fun v => K (absV v)
     | none => binS P op T (evS t x) (evS t y) K
 | .unOp op _ x => match conc1 (evS t x) with
   | some a => XWp P (Op.unary op a) fun v => K (absV v)
   | none => False
 | .convert s d x => match conc1 (evS t x) with
   | some a => XWp P (convert s d a) fun v => K (absV v)
   | none => (match strR P s d m (evS t x) with
     | some v => K v
     | none => False)
 | .makeFunc (.func g) a c => K (.f g (a.toList.map (evS t)) (c.toList.map (evS t)))
 | .fieldAddr T x f => match P.underlying T with
   | some (.struct fs) => match fs[f]? with
     | some fd => nz (lay1 P fd.type) (ptrAdd (evS t x) fd.offset K)
     | none => False
   | _ => False
 | .field T x f => match P.underlying T, evS t x with
   | some (.struct fs), .a l => match fs[f]? with
     | some fd => match layS P fd.type, dropC fd.offset l with
       | some (.one z), some (v :: _) => cond (shOk z v) (K v) False
       | some (.many zs), some l => match prefC zs.length l with
         | some vs => K (.a vs)
         | none => False
       | _, _ => False
     | none => False
   | _, _ => False
 | .indexAddr T x i => match evS t i with
   | .u (.i _ i) => match P.underlying T, asD (evS t x) with
     | some (.slice e), .u (.l s rows) => cond (Nat.beq s (lay1 P e) && !Nat.beq s 0) (elL rows i fun r => K (.q r 0)) False
     | some (.slice e), .c s rows => cond (Nat.beq s (lay1 P e) && !Nat.beq s 0) (elL rows i fun r => K (.q r 0)) False
     | some (.slice e), .w b => match mg m b with
       | .w _ sz rows => cond (Nat.beq sz (lay1 P e) && !Nat.beq sz 0) (0 ≤ i ∧ i < rows.length ∧ K (.e b sz i 0)) False
       | .cw _ sz n _ => cond (Nat.beq sz (lay1 P e) && !Nat.beq sz 0) (0 ≤ i ∧ i < n ∧ K (.e b sz i 0)) False
       | _ => False
     | some (.slice e), .v b sz l n _ => cond (Nat.beq sz (lay1 P e) && !Nat.beq sz 0) (0 ≤ i ∧ i < n ∧ K (.e b sz (l + i) 0)) False
     | some (.slice e), .sl b o n => nz (lay1 P e) (idxK i n fun j => K (.r b (o + j * lay1 P e)))
     | some (.array n e), .e b sz k o => nz (lay1 P e) (idxK i n fun j => K (.e b sz k (o + j * lay1 P e)))
     | some (.array n e), .r b o => match mg m b with
       | .c cells => match dropC o cells with
         | some (.n _ w _ :: _) => cond (Nat.beq w n && Nat.beq (lay1 P e) 1) (0 ≤ i ∧ i < n ∧ K (.g b o w i)) False
         | some _ => match i with
           | .ofNat j => cond (Nat.ble (j + 1) n) (nz (lay1 P e) (K (.r b (o + j * lay1 P e)))) False
           | .negSucc _ => False
         | none => False
       | _ => False
     | some (.array n e), .q c o => nz (lay1 P e) (idxK i n fun j => K (.q c (o + j * lay1 P e)))
     | _, _ => False
   | _ => False
 | .index T x i => match evS t i with
   | .u (.i _ i) => match P.underlying T, evS t x with
     | some .string, .u (.s s) => 0 ≤ i ∧ i < s.size ∧ K (.u (.i .u8 (s.data.getD i.toNat 0).toNat))
     | some (.array n e), .a l => match zerosOf P e, cellU l with
       | some zs, some us => cond (Nat.beq us.length (n * zs.length)) (elL (chunk n zs.length us) i fun r => dUs zs r 0 fun vs => K (oneA P e (vs.map .u))) False
       | _, _ => False
     | _, _ => False
   | _ => False
 | .extract x i => match evS t x with
   | .t l => cond (Nat.ble (i + 1) l.length) (K (vget l i)) False
   | _ => False
 | .build T ps => match P.info? T, P.underlying T with
   | some inf, some (.struct fs) => match inf.zero with
     | some (.agg cs) => cond (allLaid P fs.toList) (match fillC (placeOf P fs.toList) (normC P T (cs.toList.map ofV1)) (ps.toList.map fun p => (p.1, evS t p.2)) with
       | some l => K (.a (normC P T l))
       | none => False) False
     | _ => False
   | some inf, some (.array _ e) => match inf.zero with
     | some (.agg cs) => nz (lay1 P e) (match fillC (fun i => some (i * lay1 P e, lay1 P e)) (fixN (leafs P 9 T) (cs.toList.map ofV1)) (ps.toList.map fun p => (p.1, evS t p.2)) with
       | some l => K (.a (normC P T l))
       | none => False)
     | _ => False
   | _, _ => False
 | .slice T x lo hi mx => match P.underlying T, asD (evS t x) with
   | some .string, .u (.s s) => match mx, bndS t lo 0, bndS t hi s.size with
     | none, some l, some r => leK lo.isNone 0 l (l ≤ r ∧ r ≤ s.size ∧ K (.u (.s (s.extract l.toNat r.toNat))))
     | _, _, _ => False
   | some (.slice e), .u (.l s rows) => cond (Nat.beq s (lay1 P e) && !Nat.beq s 0) (match mx, bndS t lo 0, bndS t hi rows.length with
     | none, some l, some r => leK lo.isNone 0 l (l ≤ r ∧ r ≤ rows.length ∧ K (.u (.l s ((rows.take r.toNat).drop l.toNat))))
     | some mx, some l, some r => match evS t mx with
       | .u (.i _ k) => cond hi.isSome (leK lo.isNone 0 l (l ≤ r ∧ r ≤ rows.length ∧ k = r ∧ K (.c s ((rows.take r.toNat).drop l.toNat)))) False
       | _ => False
     | _, _, _ => False) False
   | some (.slice e), .c s rows => cond (Nat.beq s (lay1 P e) && !Nat.beq s 0) (match mx, bndS t lo 0, bndS t hi rows.length with
     | none, some l, some r => leK lo.isNone 0 l (l ≤ r ∧ r ≤ rows.length ∧ r = rows.length ∧ K (.c s ((rows.take r.toNat).drop l.toNat)))
     | _, _, _ => False) False
   | some (.slice e), .w b => match mg m b with
     | .w _ sz rows => viewS P t e lo hi mx b sz 0 rows.length false K
     | _ => False
   | some (.slice e), .v b sz l n c => viewS P t e lo hi mx b sz l n c K
   | _, _ => False
 | .load T a => sLoad P T (evS t a) m K
 | .lookup T x k ok => lookS P T (evS t x) (evS t k) ok m K
 | .call c => match c.callee with
   | .builtin .len => match c.args.toList, c.argTypes.toList with
     | [x], [T] => cond (okLen (P.underlying T) (evS t x)) (lenS m (evS t x) fun n => K (.u (.i .i64 n))) False
     | _, _ => False
   | .builtin .min => match argsI t c.args.toList with
     | some vs => XWp P (Builtin.min_ c.argTypes o.type vs.toArray) fun v => K (absV v)
     | none => False
   | .builtin .max => match argsI t c.args.toList with
     | some vs => XWp P (Builtin.max_ c.argTypes o.type vs.toArray) fun v => K (absV v)
     | none => False
   | _ => False
 | _ => False
def inL : List Nat → Nat → Bool
 | [], _ => false
 | x :: l, b => Nat.beq x b || inL l b
def toU (ro : List Nat) (m : Mem) : V → Option (U × Mem)
 | .u x => some (x, m)
 | .c s rows => some (.l s rows, m)
 | .nl s => some (.l s [], m)
 | .q c 0 => some (.p (some c), m)
 | .w b => match mg m b with
   | .w _ sz rows => cond (inL ro b) none (some (.l sz rows, ms m b .x))
   | _ => none
 | _ => none
def toUs (ro : List Nat) : Mem → List V → Option (List U × Mem)
 | m, [] => some ([], m)
 | m, v :: l => match toU ro m v with
   | some (u, m1) => match toUs ro m1 l with
     | some (us, m2) => some (u :: us, m2)
     | none => none
   | none => none
def usp : List U → Nat → List U → List U
 | l, _, [] => l
 | [], _, _ => []
 | _ :: l, 0, v :: vs => v :: usp l 0 vs
 | x :: l, n + 1, v :: vs => x :: usp l n (v :: vs)
def aggOk (P : Program) (T : TypeId) (x : V) : Bool :=
 match layS P T, x with
 | some (.many _), .a _ => true
 | some (.one _), .a _ => false
 | some (.one _), _ => true
 | _, _ => false
def keepB (m : Mem) : List V → Bool
 | [] => false
 | .w j :: l => (match mg m j with
   | .w _ s _ => Nat.beq s 1
   | _ => true) || keepB m l
 | .u _ :: l => keepB m l
 | .c _ _ :: l => keepB m l
 | .nl _ :: l => keepB m l
 | .q _ 0 :: l => keepB m l
 | _ :: _ => true
def sStore (P : Program) (vw : Bool) (ro : List Nat) (T : TypeId) (a x : V) (m : Mem) (K : Mem → Prop) : Prop :=
 match zerosOf P T, vcells P T x with
 | some zs, some xs => cond (shL zs xs && aggOk P T (normV P T x)) (match a with
   | .r b o => cond (inL ro b) False (match mg m b with
     | .c cells => match putC xs o cells with
       | some l => K (ms m b (.c l))
       | none => False
     | _ => False)
   | .g b o w k => cond (inL ro b) False (match mg m b, xs with
     | .c cells, [.u (.i .i64 y)] => match dropC o cells with
       | some (.n k' w' l :: _) => cond (Nat.beq w w' && Nat.beq (kindNo k') 3) (match putC [.n .i64 w (l.set k.toNat y)] o cells with
         | some l => K (ms m b (.c l))
         | none => False) False
       | _ => False
     | _, _ => False)
   | .e b sz k o => cond (inL ro b) False (match mg m b with
     | .cw E sz' n cells => cond (Nat.beq sz sz') (match putC xs (k.toNat * sz + o) cells with
       | some l => K (ms m b (.cw E sz n l))
       | none => False) False
     | .w E sz' rows => cond (vw && keepB m xs) (cond (Nat.beq sz sz') (match putC xs (k.toNat * sz + o) (rows.flatten.map V.u) with
      | some l => K (ms m b (.cw E sz rows.length l))
      | none => False) False) (match toUs ro m xs with
      | some (us, m1) => match mg m1 b with
        | .w E sz' rows => cond (Nat.beq sz sz') (cond (Nat.beq o 0 && Nat.beq us.length sz) (K (ms m1 b (.w E sz (rows.set k.toNat us))))
         (cond (Nat.ble (o + us.length) sz) (elL rows k fun r => K (ms m1 b (.w E sz (rows.set k.toNat (usp r o us))))) False)) False
        | _ => False
      | none => False)
     | _ => False)
   | _ => False) False
 | _, _ => False
def isSg : V → Bool
 | .a _ => false
 | .t _ => false
 | .z => false
 | _ => true
def appCS (P : Program) (ro : List Nat) (e : TypeId) (x y : V) (m : Mem) (K : V → Mem → Prop) : Prop :=
 match y with
 | .sl b2 o n => match mg m b2 with
   | .c cells => match dropC o cells with
     | some l => match prefC (n * lay1 P e) l with
       | some new => cond (new.all isSg && !Nat.beq n 0) (match x with
         | .nl _ => cond (Nat.ble (0 + n) 1000000) (K (.w m.length) (m ++ [.cw e (lay1 P e) n new])) False
         | .w b => cond (inL ro b) False (match mg m b with
           | .cw e' s k old => cond (Nat.beq e e' && Nat.beq (lay1 P e) s && Nat.ble (k + n) 1000000) (K (.w m.length) (ms m b .x ++ [.cw e (lay1 P e) (k + n) (old ++ new)])) False
           | _ => False)
         | _ => False) False
       | none => False
     | none => False
   | _ => False
 | _ => False
def appS (P : Program) (ro : List Nat) (T : TypeId) (x y : V) (m : Mem) (K : V → Mem → Prop) : Prop :=
 match P.underlying T with
 | some (.slice e) => cond (elTyB P T e (lay1 P e)) (match y with
   | .nl _ => (match x with
     | .nl s => K (.nl s) m
     | .u (.l s r) => K (.u (.l s r)) m
     | .c s r => K (.c s r) m
     | .v b sz l n c => K (.v b sz l n c) m
     | _ => False)
   | y => (match srcS m y with
     | some (s, new) => cond (Nat.beq s (lay1 P e)) (match x with
       | .nl _ => apOk [] new ∧ K (.w m.length) (m ++ [.w e s new])
       | .w b => cond (inL ro b) False (match mg m b with
         | .w e' s' rows => cond (Nat.beq e e' && Nat.beq s s') (apOk rows new ∧ K (.w m.length) (ms m b .x ++ [.w e s (rows ++ new)])) False
         | _ => False)
       | .c s' rows => cond (Nat.beq s s') (apOk rows new ∧ match new with
         | _ :: _ => K (.w m.length) (m ++ [.w e s (rows ++ new)])
         | [] => K (.c s rows) m) False
       | .v b s' l n c => cond (Nat.beq s s') (match mg m b with
         | .w e' s2 rows => cond (Nat.beq e e' && Nat.beq s2 s) (match new with
           | [] => K (.v b s' l n c) m
           | _ :: _ => cond c (apOk ((rows.drop l).take n) new ∧ K (.w m.length) (m ++ [.w e s ((rows.drop l).take n ++ new)]))
             (cond (Nat.beq l 0 && !inL ro b) (apOk (rows.take n) new ∧ K (.w m.length) (ms m b .x ++ [.w e s (rows.take n ++ new)])) False)) False
         | _ => False) False
       | _ => False) False
     | none => appCS P ro e x y m K)) False
 | _ => False
def keepT (P : Program) (e : TypeId) : Bool :=
 match P.underlying e with
 | some (.struct fs) => fs.toList.any fun f => (match P.underlying f.type with | some (.slice e) => Nat.beq (lay1 P e) 1 | _ => false) && !(f.pkgPath == "")
 | _ => false
def rowsOf (P : Program) (ro : List Nat) (e : TypeId) : List (List U) → Mem → List (Nat × V) → Option (List (List U) × Mem)
 | l, m, [] => some (l, m)
 | l, m, (i, v) :: rest => match vcells P e v with
   | some xs => match toUs ro m xs with
     | some (us, m1) => cond (Nat.beq us.length (lay1 P e) && Nat.ble (i + 1) l.length) (rowsOf P ro e (l.set i us) m1 rest) none
     | none => none
   | none => none
def zrow (P : Program) (e : TypeId) : Option (List U) :=
 match (P.info? e).bind (·.zero) with
 | some z => cellU (fixN (leafs P 9 e) (z.cells.toList.map ofV1))
 | none => none
def zcells (P : Program) (e : TypeId) (n : Nat) : Option (List V) :=
 match (P.info? e).bind (·.zero) with
 | some z => cond (Nat.beq z.cells.size (lay1 P e)) (some (List.replicate n (fixN (leafs P 9 e) (z.cells.toList.map ofV1))).flatten) none
 | none => none
def slCells (P : Program) (e : TypeId) (n : Nat) (ps : List (Nat × V)) : Option (List V) :=
 match zcells P e n with
 | some l => fillC (fun i => some (i * lay1 P e, lay1 P e)) l (ps.map fun p => (p.1, normV P e p.2))
 | none => none
def clearS (P : Program) (ro : List Nat) (T : TypeId) (x : V) (m : Mem) (K : Mem → Prop) : Prop :=
 match P.underlying T with
 | some (.slice e) => match x with
   | .v b sz l n _ => cond (!inL ro b && Nat.beq sz (lay1 P e) && !Nat.beq n 0) (match mg m b, zrow P e with
     | .w E s rows, some zr => cond (Nat.beq s sz && Nat.beq zr.length sz) (K (ms m b (.w E s (rows.take l ++ (List.replicate n zr ++ rows.drop (l + n)))))) False
     | _, _ => False) False
   | _ => False
 | _ => False
def mapUpdS (P : Program) (ro : List Nat) (T : TypeId) (x k v : V) (m : Mem) (K : Mem → Prop) : Prop :=
 match mapT P T, mkOf k, x with
 | some (kt, zs, E, _), some k, .m b => cond (kt.has k && !inL ro b) (match vcells P E v with
   | some xs => match toUs ro m xs with
     | some (us, m1) => match mg m1 b with
       | .p kt' sz ag rows => cond (ktEq kt kt' && Nat.beq sz zs.length && (ag == isAg P E) && Nat.beq us.length sz && aggOk P E (normV P E v)) (K (ms m1 b (.p kt' sz ag (rSet rows k us)))) False
       | _ => False
     | none => False
   | none => False) False
 | _, _, _ => False
def mapDelS (P : Program) (ro : List Nat) (T K' : TypeId) (x k : V) (m : Mem) (K : Mem → Prop) : Prop :=
 match P.underlying T, ktOf P K', mkOf k, x with
 | some (.map K1 _), some kt, some k, .m b => cond (Nat.beq K1 K' && kt.has k && !inL ro b) (match mg m b with
   | .p kt' sz ag rows => cond (ktEq kt kt') (K (ms m b (.p kt' sz ag (rDel rows k)))) False
   | _ => False) False
 | some (.map K1 _), some kt, some k, .nm => cond (Nat.beq K1 K' && kt.has k) (K m) False
 | _, _, _, _ => False
def bdL (P : Program) : List Field → Option TypeId
 | [f, g] => (match P.underlying f.type, P.underlying g.type with
   | some (.pointer _), some (.slice e) => (match P.underlying e with
     | some (.int .u8) => some e
     | _ => none)
   | _, _ => none)
 | _ => none
def bdE (P : Program) (T : TypeId) : Option TypeId :=
 match P.underlying T with
 | some (.struct fs) => (match fs.toList with
   | [f] => (match P.underlying f.type with
     | some (.struct gs) => bdL P gs.toList
     | _ => none)
   | l => bdL P l)
 | _ => none
def newA (P : Program) (T : TypeId) (z : Value) : AB :=
 match bdE P T, z.cells.toList with
 | some e, [.pointer none, .slice none 0 0] => .o (.bd ⟨T, e, []⟩)
 | _, _ => .c (match ofV z with | .a l => normC P T l | x => [normV P T x])
def boxB (T : TypeId) (e : TypeId) (xs : List V) : AB :=
 match xs with
 | [.u (.p none), .nl _] => .o (.bd ⟨T, e, []⟩)
 | xs => .c xs
def boxA (T : TypeId) (o : Option TypeId) (xs : List V) : AB :=
 match o with
 | none => .c xs
 | some e => boxB T e xs
abbrev CallH := FuncId → List V → Mem → (V → Mem → Prop) → Prop
def effS (P : Program) (vw : Bool) (ro : List Nat) (call : CallH) (t : List V) (m : Mem) (o : Oper) (K : V → Mem → Prop) : Prop :=
 match o.op with
 | .store T a x => sStore P vw ro T (evS t a) (evS t x) m fun m' => K .z m'
 | .box T x => match vcells P T (evS t x) with
   | some xs => K (.r m.length 0) (m ++ [boxA T (bdE P T) xs])
   | none => False
 | .alloc T => match (P.info? T).bind (·.zero) with
   | some z => K (.r m.length 0) (m ++ [newA P T z])
   | none => False
 | .buildSlice T n ps => match P.underlying T with
   | some (.slice e) => match zrow P e with
     | some zr => cond (Nat.ble (n * lay1 P e) 16777216 && !Nat.beq (n * lay1 P e) 0 && Nat.beq zr.length (lay1 P e)) (match cond (vw && keepT P e) none (rowsOf P ro e (List.replicate n zr) m (ps.toList.map fun p => (p.1, evS t p.2))) with
       | some (rows, m1) => K (.w m1.length) (m1 ++ [.w e (lay1 P e) rows])
       | none => match slCells P e n (ps.toList.map fun p => (p.1, evS t p.2)) with
         | some l => K (.sl m.length 0 n) (m ++ [.c l])
         | none => False) (cond (Nat.beq n 0 && Nat.beq ps.size 0) (K (.c (lay1 P e) []) m) False)
     | none => match slCells P e n (ps.toList.map fun p => (p.1, evS t p.2)) with
      | some l => cond (Nat.ble (n * lay1 P e) 16777216 && !Nat.beq (n * lay1 P e) 0) (K (.sl m.length 0 n) (m ++ [.c l])) False
      | none => False
   | _ => False
 | .makeSlice T l c => match P.underlying T, evS t l, evS t c with
   | some (.slice e), .u (.i .i64 l), .u (.i .i64 c) => match zrow P e with
     | some zr => cond (elTyB P T e (lay1 P e) && Nat.beq zr.length (lay1 P e)) (0 ≤ l ∧ l ≤ 1000000 ∧ c = l ∧ K (.w m.length) (m ++ [.w e (lay1 P e) (List.replicate l.toNat zr)])) False
     | none => False
   | _, _, _ => False
 | .call c => match c.callee with
   | .value f => match evS t f with
     | .f g a cc => call g (a ++ c.args.toList.map (evS t) ++ cc) m K
     | _ => False
   | .builtin .append => match c.args.toList, c.argTypes.toList with
     | [x, y], [T, T'] => cond (Nat.beq T T') (appS P ro T (evS t x) (evS t y) m K) False
     | _, _ => False
   | .builtin .delete => match c.args.toList, c.argTypes.toList with
     | [x, y], [T, T'] => mapDelS P ro T T' (evS t x) (evS t y) m fun m' => K (.t []) m'
     | _, _ => False
   | .builtin .clear => match c.args.toList, c.argTypes.toList with
     | [x], [T] => clearS P ro T (evS t x) m fun m' => K (.t []) m'
     | _, _ => False
   | _ => False
 | .range T x => match P.underlying T, evS t x with
   | some .string, .u (.s b) => K (.r m.length 0) (m ++ [.o (.si b 0)])
   | _, _ => False
 | .next it true => match evS t it with
   | .r b 0 => cond (inL ro b) False (match mg m b with
     | .o I => ∃ s p, I = .si s p ∧ cond (Nat.ble (p + 1) s.size) (K (.t [.u (.b true), .i p, .u (.i .i32 (Utf8.decode s p).1)]) (ms m b (.o (.si s (p + (Utf8.decode s p).2))))) (K (.t [.u (.b false)]) m)
     | _ => False)
   | _ => False
 | .makeMap T none => match mapT P T with
   | some (kt, zs, E, _) => K (.m m.length) (m ++ [.p kt zs.length (isAg P E) []])
   | none => False
 | .mapUpdate T x k v => mapUpdS P ro T (evS t x) (evS t k) (evS t v) m fun m' => K .z m'
 | _ => False
def numRow (x : Int) : List U := [.i .i64 x]
def cutS (P : Program) (ro : List Nat) (t : List V) (m : Mem) (o : Oper) (K : V → Mem → Prop) : Option Prop :=
 match o.op with
 | .slice T x lo hi none => match evS t x with
   | .w b => match P.underlying T, mg m b with
     | some (.slice e), .w E sz rows => match bndS t lo 0, bndS t hi rows.length with
       | some l, some r => some (cond (inL ro b || !(Nat.beq sz (lay1 P e) && !Nat.beq sz 0)) False (match lo with
         | none => 0 ≤ r ∧ r ≤ rows.length ∧ K (.w m.length) (ms m b .x ++ [.w E sz (rows.take r.toNat)])
         | some _ => 0 ≤ l ∧ l ≤ r ∧ r ≤ rows.length ∧ K (.u (.l sz ((rows.take r.toNat).drop l.toNat))) (ms m b .x)))
       | _, _ => some False
     | _, _ => some False
   | .r b 0 => match lo, hi, mg m b with
     | none, none, .c [.n k w xs] => match P.underlying T with
       | some (.array n e) => some (cond (!inL ro b && Nat.beq n w && Nat.beq (lay1 P e) 1 && Nat.beq (kindNo k) 3) (K (.u (.l 1 (xs.map numRow))) (ms m b .x)) False)
       | some (.pointer A) => match P.underlying A with
         | some (.array n e) => some (cond (!inL ro b && Nat.beq n w && Nat.beq (lay1 P e) 1 && Nat.beq (kindNo k) 3) (K (.u (.l 1 (xs.map numRow))) (ms m b .x)) False)
         | _ => some False
       | _ => some False
     | _, _, _ => some False
   | _ => none
 | _ => none
def quietB (o : Oper) : Bool := pureOp o || readOp o
def bytesU (s : ByteArray) : List (List U) := s.data.toList.map fun c => [.i .u8 c.toNat]
def strO (P : Program) (o : Oper) : Bool :=
 match o.op with
 | .convert s d _ => (match P.underlying s, P.underlying d with
   | _, some (.slice _) => true
   | some (.slice _), some .string => true
   | _, _ => false)
 | _ => false
def strS (P : Program) (t : List V) (m : Mem) (o : Oper) : Option V :=
 match o.op with
 | .convert s d x => (match P.underlying s, P.underlying d, evS t x with
   | some _, some (.slice e), .u (.s b) => (match P.underlying e with
     | some (.int .u8) => some (.u (.l 1 (bytesU b)))
     | _ => none)
   | some (.slice e), some .string, v => (match P.underlying e, srcS m v with
     | some (.int .u8), some (1, rows) => (match byteR rows with
       | some ns => some (.u (.s (strOf ns)))
       | none => none)
     | _, _ => none)
   | _, _, _ => none)
 | _ => none
def strP (P : Program) (t : List V) (m : Mem) (o : Oper) (K : V → Mem → Prop) : Option Prop :=
 cond (strO P o) (match strS P t m o with
  | some v => some (K v m)
  | none => some False) none
def opS (P : Program) (vw : Bool) (ro : List Nat) (call : CallH) (t : List V) (m : Mem) (o : Oper) (K : V → Mem → Prop) : Prop :=
 match cond vw (strP P t m o K) (cutS P ro t m o K) with
 | some p => p
 | none => cond (quietB o) (quietS P t m o fun v => K v m) (effS P vw ro call t m o K)
def guardS (ops : List Oper) (o : Oper) (t : List V) (A B : List V → Prop) : Prop :=
 match guardSlot ops o with
 | none => A t
 | some (none, _) => B t
 | some (some d, want) =>
   match vget t d with
   | .u (.b c) => cond c (cond want (A (vset t d (.u (.b true)))) (B (vset t d (.u (.b true))))) (cond want (B (vset t d (.u (.b false)))) (A (vset t d (.u (.b false)))))
   | .t [] => B t
   | _ => False
mutual
def refsV : V → List Nat
 | .r b _ => [b]
 | .e b _ _ _ => [b]
 | .g b _ _ _ => [b]
 | .w b => [b]
 | .m b => [b]
 | .y b => [b]
 | .v b _ _ _ _ => [b]
 | .sl b _ _ => [b]
 | .f _ a c => refsL a ++ refsL c
 | .a l => refsL l
 | .t l => refsL l
 | _ => []
def refsL : List V → List Nat
 | [] => []
 | v :: l => refsV v ++ refsL l
end
def refsA : AB → List Nat
 | .c l => refsL l
 | .cw _ _ _ l => refsL l
 | _ => []
def clo (m : Mem) : Nat → List Nat → List Nat → List Nat
 | 0, _, acc => acc
 | _ + 1, [], acc => acc
 | n + 1, b :: todo, acc => cond (inL acc b) (clo m n todo acc) (clo m n (refsA (mg m b) ++ todo) (acc ++ [b]))
def srcOf (t : List V) (o : Oper) : List Nat := refsL (o.op.operands.toList.map (evS t))
def heldB (ops : List Oper) (e : Nat) : List (Nat × List Nat) → List Nat
 | [] => []
 | (i, bs) :: l => cond (waits ops ops.length i e) (heldB ops e l) (bs ++ heldB ops e l)
def drawS (P : Program) (vw : Bool) (ro hr : List Nat) (call : List Nat → CallH) (ops : List Oper) (K : List V → Mem → Prop) : Nat → List Nat → List (Nat × List Nat) → List V → Mem → Prop
 | 0, _, _, t, m => K t m
 | n + 1, done, held, t, m =>
   match nextQ ops done with
   | some i =>
     match ops[i]? with
     | none => False
     | some o => guardS ops o t
      (fun t => quietS P t m o fun v => drawS P vw ro hr call ops K n (i :: done) (cond (pureS o) held ((i, srcOf t o) :: held)) (vput t o.dst v) m)
      (fun t => drawS P vw ro hr call ops K n (i :: done) held (vput t o.dst (.t [])) m)
   | none => conjL (readies ops done) fun i =>
     match ops[i]? with
     | none => False
     | some o => guardS ops o t
      (fun t => effS P vw (heldB ops i held ++ hr ++ ro) (call (heldB ops i held ++ hr)) t m o fun v m' => drawS P vw ro hr call ops K n (i :: done) held (vput t o.dst v) m')
      (fun t => drawS P vw ro hr call ops K n (i :: done) held (vput t o.dst (.t [])) m)
def yieldOf (t : List V) (o : Oper) : Option (Nat × List V) :=
 match o.op with
 | .call c => match c.callee with
   | .value f => match evS t f with
     | .y b => some (b, c.args.toList.map (evS t))
     | _ => none
   | _ => none
 | _ => none
def opsSY (P : Program) (vw : Bool) (ro : List Nat) (call : CallH) (yh : Nat → List V → Mem → (V → Mem → Prop) → Prop) (ops : List Oper) (K : List V → Mem → Prop) : List Oper → List V → Mem → Prop
 | [], t, m => K t m
 | o :: rest, t, m => guardS ops o t (fun t => match yieldOf t o with
     | some (b, args) => yh b args m fun v m' => opsSY P vw ro call yh ops K rest (vput t o.dst v) m'
     | none => opS P vw ro call t m o fun v m' => opsSY P vw ro call yh ops K rest (vput t o.dst v) m')
  (fun t => opsSY P vw ro call yh ops K rest (vput t o.dst (.t [])) m)
inductive Pt where
 | i (k : IntKind) | b | s | l (s : Nat) | p | n (w : Nat) | ow (E sz : Nat) | w (j : Nat) | r (j o : Nat) | m (j : Nat) | nm | z | A | X | row (E sz : Nat) | mp (kt : KT) (sz : Nat) (ag : Bool)
inductive It where
 | v (y : V)
 | e (y : AB)
def Pt.Fn (X : Type) : Pt → Type
 | .i _ => Int → X
 | .b => Bool → X
 | .s => ByteArray → X
 | .l _ => List (List U) → X
 | .p => Option (List U) → X
 | .n _ => List Int → X
 | .ow _ _ => List (List U) → X
 | .row _ _ => List (List U) → X
 | .A => Ob → X
 | .mp .. => List (MK × List U) → X
 | _ => X
def Pt.lam {X : Type} : (y : Pt) → (It → X) → y.Fn X
 | .i k, K => fun n => K (.v (.u (.i k n)))
 | .b, K => fun n => K (.v (.u (.b n)))
 | .s, K => fun n => K (.v (.u (.s n)))
 | .l sz, K => fun n => K (.v (.u (.l sz n)))
 | .p, K => fun n => K (.v (.u (.p n)))
 | .n nw, K => fun n => K (.v (.n .i64 nw n))
 | .ow E sz, K => fun n => K (.e (.w E sz n))
 | .row E sz, K => fun n => K (.e (.w E sz n))
 | .A, K => fun n => K (.e (.o n))
 | .mp kt sz ag, K => fun n => K (.e (.p kt sz ag n))
 | .w j, K => K (.v (.w j))
 | .r j o, K => K (.v (.r j o))
 | .m j, K => K (.v (.m j))
 | .nm, K => K (.v .nm)
 | .z, K => K (.v .z)
 | .X, K => K (.e .x)
def Pt.zip {X Y Z : Type} : (y : Pt) → y.Fn X → y.Fn Y → (X → Y → Z) → y.Fn Z
 | .i _, f, g, K => fun n => K (f n) (g n)
 | .b, f, g, K => fun n => K (f n) (g n)
 | .s, f, g, K => fun n => K (f n) (g n)
 | .l _, f, g, K => fun n => K (f n) (g n)
 | .p, f, g, K => fun n => K (f n) (g n)
 | .n _, f, g, K => fun n => K (f n) (g n)
 | .ow _ _, f, g, K => fun n => K (f n) (g n)
 | .row _ _, f, g, K => fun n => K (f n) (g n)
 | .A, f, g, K => fun n => K (f n) (g n)
 | .mp .., f, g, K => fun n => K (f n) (g n)
 | .w _, f, g, K => K f g
 | .r _ _, f, g, K => K f g
 | .m _, f, g, K => K f g
 | .nm, f, g, K => K f g
 | .z, f, g, K => K f g
 | .X, f, g, K => K f g
def Pt.all {X : Type} : (y : Pt) → y.Fn X → (X → Prop) → Prop
 | .i _, f, K => ∀ n : Int, K (f n)
 | .b, f, K => ∀ n : Bool, K (f n)
 | .s, f, K => ∀ n : ByteArray, K (f n)
 | .l _, f, K => ∀ n : List (List U), K (f n)
 | .p, f, K => ∀ n : Option (List U), K (f n)
 | .n _, f, K => ∀ n : List Int, K (f n)
 | .ow _ _, f, K => ∀ n : List (List U), K (f n)
 | .row _ _, f, K => ∀ n : List (List U), K (f n)
 | .A, f, K => ∀ n : Ob, K (f n)
 | .mp .., f, K => ∀ n : List (MK × List U), K (f n)
 | .w _, f, K => K f
 | .r _ _, f, K => K f
 | .m _, f, K => K f
 | .nm, f, K => K f
 | .z, f, K => K f
 | .X, f, K => K f
def PtT (R : Type) : List Pt → Type
 | [] => R
 | y :: l => y.Fn (PtT R l)
def Pt.app {X : Type} : (y : Pt) → y.Fn X → It → Option X
 | .i _, F, .v (.u (.i _ nn)) => some (F nn)
 | .b, F, .v (.u (.b nn)) => some (F nn)
 | .s, F, .v (.u (.s nn)) => some (F nn)
 | .l _, F, .v (.u (.l _ nn)) => some (F nn)
 | .p, F, .v (.u (.p nn)) => some (F nn)
 | .n _, F, .v (.n _ _ nn) => some (F nn)
 | .ow _ _, F, .e (.w _ _ nn) => some (F nn)
 | .row _ _, F, .e (.w _ _ nn) => some (F nn)
 | .A, F, .e (.o nn) => some (F nn)
 | .mp .., F, .e (.p _ _ _ nn) => some (F nn)
 | .w _, F, _ => some F
 | .r _ _, F, _ => some F
 | .m _, F, _ => some F
 | .nm, F, _ => some F
 | .z, F, _ => some F
 | .X, F, _ => some F
 | _, _, _ => none
def apP {R : Type} (d : R) : (ps : List Pt) → PtT R ps → List It → R
 | [], F, _ => F
 | _ :: _, _, [] => d
 | y :: ps, F, i :: is => match y.app F i with
   | some G => apP d ps G is
   | none => d
def pk1 (lim : Nat) (m : Mem) : Pt → V → Option (It × Mem)
 | .i k, .u (.i k' n) => cond (Nat.beq (kindNo k) (kindNo k')) (some (.v (.u (.i k n)), m)) none
 | .b, .u (.b c) => some (.v (.u (.b c)), m)
 | .s, .u (.s c) => some (.v (.u (.s c)), m)
 | .l sz, .u (.l sz' c) => cond (Nat.beq sz sz') (some (.v (.u (.l sz c)), m)) none
 | .l sz, .c sz' c => cond (Nat.beq sz sz') (some (.v (.u (.l sz c)), m)) none
 | .l sz, .nl _ => some (.v (.u (.l sz [])), m)
 | .p, .u (.p c) => some (.v (.u (.p c)), m)
 | .p, .q c 0 => some (.v (.u (.p (some c))), m)
 | .n nw, .n k w' c => cond (Nat.beq nw w' && Nat.beq (kindNo k) 3) (some (.v (.n .i64 nw c), m)) none
 | .ow E sz, .w j => match mg m j with
   | .w E' sz' rows => cond (Nat.beq E E' && Nat.beq sz sz') (some (.e (.w E sz rows), ms m j .x)) none
   | _ => none
 | .ow E sz, .nl _ => some (.e (.w E sz []), m)
 | .w j, .w j' => cond (Nat.beq j j' && Nat.ble (j + 1) lim) (some (.v (.w j), m)) none
 | .r j o, .r j' o' => cond (Nat.beq j j' && Nat.beq o o' && Nat.ble (j + 1) lim) (some (.v (.r j o), m)) none
 | .m j, .m j' => cond (Nat.beq j j' && Nat.ble (j + 1) lim) (some (.v (.m j), m)) none
 | .nm, .nm => some (.v .nm, m)
 | .z, .n .. => none
 | .z, _ => some (.v .z, m)
 | _, _ => none
def pkV (lim : Nat) (m : Mem) : List Pt → List V → Option (List It × Mem)
 | [], [] => some ([], m)
 | y :: ps, x :: xs => match pk1 lim m y x with
   | some (o, m1) => match pkV lim m1 ps xs with
     | some (os, m2) => some (o :: os, m2)
     | none => none
   | none => none
 | _, _ => none
inductive BP where
 | A | X | row (E sz : Nat) | mp (kt : KT) (sz : Nat) (ag : Bool) | c (ps : List Pt)
def BP.ps : BP → List Pt
 | .A => [.A]
 | .X => [.X]
 | .row E sz => [.row E sz]
 | .mp kt sz ag => [.mp kt sz ag]
 | .c ps => ps
def pkB1 (lim : Nat) (m : Mem) : BP → Nat → Option (List It × Mem)
 | .A, j => match mg m j with
   | .o I => some ([.e (.o I)], ms m j .x)
   | _ => none
 | .X, j => some ([.e .x], ms m j .x)
 | .row E sz, j => match mg m j with
   | .w E' sz' rows => cond (Nat.beq E E' && Nat.beq sz sz') (some ([.e (.w E sz rows)], ms m j .x)) none
   | _ => none
 | .mp kt sz ag, j => match mg m j with
   | .p kt' sz' ag' rows => cond (ktEq kt kt' && Nat.beq sz sz' && (ag == ag')) (some ([.e (.p kt sz ag rows)], ms m j .x)) none
   | _ => none
 | .c ps, j => match mg m j with
   | .c l => pkV lim (ms m j .x) ps l
   | _ => none
def pkB (lim : Nat) (m : Mem) : List BP → List Nat → Option (List It × Mem)
 | [], [] => some ([], m)
 | y :: ps, j :: js => match pkB1 lim m y j with
   | some (o, m1) => match pkB lim m1 ps js with
     | some (os, m2) => some (o ++ os, m2)
     | none => none
   | none => none
 | _, _ => none
inductive RP where
 | one (y : Pt) | agg (ps : List Pt)
def RP.ps : RP → List Pt
 | .one y => [y]
 | .agg ps => ps
def pkR (lim : Nat) (m : Mem) : List RP → List V → Option (List It × Mem)
 | [], [] => some ([], m)
 | .one y :: ps, x :: xs => match pkV lim m [y] [x] with
   | some (o, m1) => match pkR lim m1 ps xs with
     | some (os, m2) => some (o ++ os, m2)
     | none => none
   | none => none
 | .agg qs :: ps, .a l :: xs => match pkV lim m qs l with
   | some (o, m1) => match pkR lim m1 ps xs with
     | some (os, m2) => some (o ++ os, m2)
     | none => none
   | none => none
 | _, _ => none
def mkP {R : Type} : (ps : List Pt) → (List It → R) → PtT R ps
 | [], K => K []
 | y :: ps, K => y.lam fun i => mkP ps fun is => K (i :: is)
def zipP {X Y Z : Type} (F : X → Y → Z) : (ps : List Pt) → PtT X ps → PtT Y ps → PtT Z ps
 | [], a, b => F a b
 | y :: ps, a, b => y.zip a b (zipP F ps)
def allP : (ps : List Pt) → PtT Prop ps → Prop
 | [], a => a
 | y :: ps, a => y.all a (allP ps)
mutual
def renV (f : Nat → Nat) : V → V
 | .r b o => .r (f b) o
 | .e b s k o => .e (f b) s k o
 | .g b o w k => .g (f b) o w k
 | .w b => .w (f b)
 | .m b => .m (f b)
 | .y b => .y (f b)
 | .v b sz l n c => .v (f b) sz l n c
 | .sl b o n => .sl (f b) o n
 | .f g a c => .f g (renL f a) (renL f c)
 | .a l => .a (renL f l)
 | .t l => .t (renL f l)
 | .u x => .u x
 | .q c o => .q c o
 | .c s r => .c s r
 | .nm => .nm
 | .nl s => .nl s
 | .n k w l => .n k w l
 | .z => .z
def renL (f : Nat → Nat) : List V → List V
 | [] => []
 | v :: l => renV f v :: renL f l
end
def renA (f : Nat → Nat) : AB → AB
 | .c l => .c (renL f l)
 | .cw E s n l => .cw E s n (renL f l)
 | a => a
def itV (f : Nat → Nat) (m : Mem) : It → V × Mem
 | .v x => (renV f x, m)
 | .e ab => (.w m.length, m ++ [ab])
def itVs (f : Nat → Nat) : Mem → Nat → List It → List V × List It × Mem
 | m, 0, is => ([], is, m)
 | m, _ + 1, [] => ([], [], m)
 | m, n + 1, i :: is => ((itV f m i).1 :: (itVs f (itV f m i).2 n is).1, (itVs f (itV f m i).2 n is).2.1, (itVs f (itV f m i).2 n is).2.2)
def reR (f : Nat → Nat) : Mem → List RP → List It → List V × List It × Mem
 | m, [], is => ([], is, m)
 | m, .one _ :: ps, is => ((itVs f m 1 is).1 ++ (reR f (itVs f m 1 is).2.2 ps (itVs f m 1 is).2.1).1, (reR f (itVs f m 1 is).2.2 ps (itVs f m 1 is).2.1).2)
 | m, .agg qs :: ps, is => (.a (itVs f m qs.length is).1 :: (reR f (itVs f m qs.length is).2.2 ps (itVs f m qs.length is).2.1).1, (reR f (itVs f m qs.length is).2.2 ps (itVs f m qs.length is).2.1).2)
def reB (f : Nat → Nat) : Mem → List BP → List Nat → List It → Mem
 | m, .c qs :: ps, b :: bs, is => reB f (ms (itVs f m qs.length is).2.2 b (.c (itVs f m qs.length is).1)) ps bs (itVs f m qs.length is).2.1
 | m, _ :: ps, b :: bs, .e ab :: is => reB f (ms m b ab) ps bs is
 | m, _, _, _ => m
structure Hint where
 sl : List (Nat × RP)
 bl : List (Nat × BP)
def Hint.ps (h : Hint) : List Pt := (h.sl.map (·.2)).flatMap RP.ps ++ (h.bl.map (·.2)).flatMap BP.ps
def Hint.pk (h : Hint) (lim : Nat) (t : List V) (m : Mem) : Option (List It × Mem) :=
 match pkR lim m (h.sl.map (·.2)) (h.sl.map fun p => vget t p.1) with
 | some (os, m1) => match pkB lim m1 (h.bl.map (·.2)) (h.bl.map (·.1)) with
   | some (os2, m2) => some (os ++ os2, m2)
   | none => none
 | none => none
def tkV : List Pt → List V → List Nat
 | .ow _ _ :: ps, .w j :: xs => j :: tkV ps xs
 | _ :: ps, _ :: xs => tkV ps xs
 | _, _ => []
def tkR : List RP → List V → List Nat
 | .one y :: ps, x :: xs => tkV [y] [x] ++ tkR ps xs
 | .agg qs :: ps, .a l :: xs => tkV qs l ++ tkR ps xs
 | _ :: ps, _ :: xs => tkR ps xs
 | _, _ => []
def tkB (m : Mem) : BP → Nat → List Nat
 | .c ps, j => match mg m j with
   | .c l => j :: tkV ps l
   | _ => [j]
 | _, j => [j]
def Hint.tk (h : Hint) (t : List V) (m : Mem) : List Nat := tkR (h.sl.map (·.2)) (h.sl.map fun p => vget t p.1) ++ h.bl.flatMap fun p => tkB m p.2 p.1
def killM : Mem → List Nat → Mem
 | m, [] => m
 | m, b :: bs => killM (ms m b .x) bs
def Hint.base (h : Hint) (t : List V) (m : Mem) : Mem := killM m (h.tk t m)
def aliveB : Mem → Mem → Bool
 | [], _ => true
 | .x :: l, _ :: r => aliveB l r
 | _ :: _, .x :: _ => false
 | _ :: l, _ :: r => aliveB l r
 | _ :: _, [] => false
def Hint.el (h : Hint) (m0 : Mem) (F : PtT Prop h.ps) (t : List V) (m : Mem) : Prop :=
 match h.pk m0.length t m with
 | some (os, m1) => cond (aliveB m0 m1) (apP False h.ps F os) False
 | none => False
def havoc (md : List Nat) : List V → Nat → List V
 | [], _ => []
 | v :: l, k => cond (md.contains k) .z v :: havoc md l (k + 1)
def setS : List V → List (Nat × RP) → List V → List V
 | t, p :: ps, v :: vs => setS (vset t p.1 v) ps vs
 | t, _, _ => t
def roOf : Mem → Nat → List Nat
 | [], _ => []
 | .x :: l, k => roOf l (k + 1)
 | _ :: l, k => k :: roOf l (k + 1)
def Hint.st (h : Hint) (md : List Nat) (t : List V) (m : Mem) (is : List It) : List V × Mem :=
 (setS (havoc md t 0) h.sl (reR id (h.base t m) (h.sl.map (·.2)) is).1, reB id (reR id (h.base t m) (h.sl.map (·.2)) is).2.2 (h.bl.map (·.2)) (h.bl.map (·.1)) (reR id (h.base t m) (h.sl.map (·.2)) is).2.1)
end Go.Proofs.YtaogfopaalancaaDoor
/- The symbolic engine, part b: what abstract values stand for; calls; code. -/
set_option linter.unusedVariables false
namespace Go.Proofs.YtaogfopaalancaaDoor
open Go
structure Loc where
 b : Nat
 a : Option Addr
 n : Nat
 c : Nat
 o : Option Obj
mutual
inductive Rp (D : Fz) (ρ : List Loc) : Value → V → Prop
 | u {v : Value} {x : U} : Rd D v x → Rp D ρ v (.u x)
 | r {b o : Nat} {L : Loc} : ρ[b]? = some L → Rp D ρ (.pointer (some ⟨L.b, o, none⟩)) (.r b o)
 | e {b sz o p q : Nat} {k : Int} {L : Loc} : ρ[b]? = some L → L.a = some ⟨p, q, none⟩ → 0 ≤ k → k < L.n → Rp D ρ (.pointer (some ⟨p, q + k.toNat * sz + o, none⟩)) (.e b sz k o)
 | g {b o w : Nat} {k : Int} {L : Loc} : ρ[b]? = some L → 0 ≤ k → k < w → Rp D ρ (.pointer (some ⟨L.b, o + k.toNat, none⟩)) (.g b o w k)
 | q {c : List U} {p o o' : Nat} : Rd D (.pointer (some ⟨p, o, none⟩)) (.p (some c)) → o' = o → ∀ n, Rp D ρ (.pointer (some ⟨p, o' + n, none⟩)) (.q c n)
 | w {b : Nat} {L : Loc} : ρ[b]? = some L → Rp D ρ (.slice L.a L.n L.c) (.w b)
 | c {a : Option Addr} {n sz : Nat} {rows : List (List U)} : Rd D (.slice a n n) (.l sz rows) → Rp D ρ (.slice a n n) (.c sz rows)
 | m {b : Nat} {L : Loc} : ρ[b]? = some L → Rp D ρ (.map (some L.b)) (.m b)
 | nm : Rp D ρ (.map none) .nm
 | nl {s : Nat} : Rp D ρ (.slice none 0 0) (.nl s)
 | f {g : FuncId} {xs ys : List Value} {a c : List V} : RpL D ρ xs a → RpL D ρ ys c → Rp D ρ (.func (.func g) xs.toArray ys.toArray) (.f g a c)
 | a {vs : List Value} {l : List V} : RpC D ρ vs l → Rp D ρ (.agg vs.toArray) (.a l)
 | t {vs : List Value} {l : List V} : RpL D ρ vs l → Rp D ρ (.tuple vs.toArray) (.t l)
 | z {v : Value} : Rp D ρ v .z
 | y {b : Nat} {L : Loc} : ρ[b]? = some L → Rp D ρ (.func (.yield L.b) #[] #[]) (.y b)
 | v {b sz l n cap : Nat} {c : Bool} {a : Option Addr} {L : Loc} : ρ[b]? = some L → l + n ≤ L.n → (l = 0 → a = L.a) → (0 < n → ∃ p q, L.a = some ⟨p, q, none⟩ ∧ a = some ⟨p, q + l * sz, none⟩) → n ≤ cap → (c = true → cap = n) → (c = false → l = 0 → cap = L.c) →
     Rp D ρ (.slice a n cap) (.v b sz l n c)
 | sl {b o n cap : Nat} {a : Option Addr} {L : Loc} : ρ[b]? = some L → (0 < n → a = some ⟨L.b, o, none⟩) → n ≤ cap → Rp D ρ (.slice a n cap) (.sl b o n)
inductive RpL (D : Fz) (ρ : List Loc) : List Value → List V → Prop
 | nil : RpL D ρ [] []
 | cons {v : Value} {x : V} {vs : List Value} {xs : List V} : Rp D ρ v x → RpL D ρ vs xs → RpL D ρ (v :: vs) (x :: xs)
inductive RpC (D : Fz) (ρ : List Loc) : List Value → List V → Prop
 | nil : RpC D ρ [] []
 | cons {v : Value} {x : V} {vs : List Value} {xs : List V} : Rp D ρ v x → (∀ k w l, x ≠ .n k w l) → RpC D ρ vs xs → RpC D ρ (v :: vs) (x :: xs)
 | n {k : IntKind} {w : Nat} {l : List Int} {vs : List Value} {xs : List V} : l.length = w → RpC D ρ vs xs → RpC D ρ (l.map (.int k) ++ vs) (.n k w l :: xs)
end
inductive MRel (D : Fz) (ag : Bool) : MV → List (MK × List U) → Prop
 | nil : MRel D ag [] []
 | cons {k : MK} {v : Value} {us : List U} {vs : List Value} {m : MV} {rows : List (MK × List U)} : RdL D vs us → cond ag (v = .agg vs.toArray) (vs = [v]) → MRel D ag m rows → MRel D ag ((k, v) :: m) ((k, us) :: rows)
inductive Ent (D : Fz) (ρ : List Loc) (L : Loc) : AB → Chunk → Prop
 | c {arr : List Value} {T : TypeId} {l : List V} : RpC D ρ arr l → Ent D ρ L (.c l) [(L.b, .cells arr.toArray T (0, 0))]
 | w {E sz : Nat} {rows : List (List U)} {ch : Chunk} : Own D E sz L.a L.c rows ch → L.n = rows.length → Ent D ρ L (.w E sz rows) ch
 | o {I : Ob} {ch : Chunk} : I.f D L.b ch → Ent D ρ L (.o I) ch
 | p {kt : KT} {sz : Nat} {ag : Bool} {rows : List (MK × List U)} {es : Array MapEntry} {clk : Nat} {mv : MV} : MpI kt es clk mv → MRel D ag mv rows → (∀ r ∈ rows, r.2.length = sz) → Ent D ρ L (.p kt sz ag rows) [(L.b, .map es clk)]
 | tk {ob : Obj} : L.o = some ob → Ent D ρ L .tk [(L.b, ob)]
 | x : Ent D ρ L .x []
 | cw {E sz n b : Nat} {vs ps : List Value} {l : List V} : L.a = some ⟨b, 0, none⟩ → L.n = n → RpC D ρ vs l → vs.length = n * sz → (vs ++ ps).length = L.c * sz → n ≤ L.c ∧ L.c ≤ 9223372036854775807 → Ent D ρ L (.cw E sz n l) [(b, .cells (vs ++ ps).toArray E (0, 0))]
structure SAt (D : Fz) (ρ : List Loc) (m : Mem) (chs C : List Chunk) (h : Heap) : Prop where
 len : ρ.length = m.length
 lch : chs.length = m.length
 ent : ∀ (i : Nat) (L : Loc) (ab : AB) (ch : Chunk), ρ[i]? = some L → m[i]? = some ab → chs[i]? = some ch → Ent D ρ L ab ch
 st : St D (chs ++ C) h
def PRun (P : Program) (g : FuncId) (m : Mem) (args : List V) (Q : V → Mem → Prop) : Prop :=
 ∀ (D : Fz) (ρ : List Loc) (chs C : List Chunk) (h : Heap) (vs : List Value), SAt D ρ m chs C h → RpL D ρ vs args →
   Run P g vs h fun v h' => ∃ (D' : Fz) (ρ' : List Loc) (chs' : List Chunk) (x : V) (m' : Mem), Le D D' ∧ SAt D' (ρ ++ ρ') m' chs' C h' ∧ Rp D' (ρ ++ ρ') v x ∧ Q x m'
abbrev RP.I : RP := .one (.i .i64)
abbrev RP.B : RP := .one .b
abbrev RP.S : RP := .one .s
abbrev RP.L (s : Nat) : RP := .one (.l s)
def patZ : Value × Nat → Pt
 | (.int k _, _) => .i k
 | (.bool _, _) => .b
 | (.string _, _) => .s
 | (.slice .., s) => .l s
 | (.pointer _, _) => .p
 | _ => .z
def patT (P : Program) (T : TypeId) : RP :=
 match layS P T with
 | some (.one z) => .one (patZ z)
 | some (.many zs) => .agg (zs.map patZ)
 | none => .one .z
def patC (m : Mem) : V → Pt
 | .u (.i k _) => .i k
 | .u (.b _) => .b
 | .u (.s _) => .s
 | .u (.l s _) => .l s
 | .u (.p _) => .p
 | .q _ 0 => .p
 | .c s _ => .l s
 | .nl s => .l s
 | .n _ w _ => .n w
 | .w j => match mg m j with
   | .w E sz _ => .ow E sz
   | _ => .z
 | .r j o => .r j o
 | .m j => .m j
 | .nm => .nm
 | _ => .z
def patA (m : Mem) (own : Bool) : AB → BP
 | .o _ => .A
 | .x => .X
 | .tk => .X
 | .w E sz _ => cond own (.row E sz) .X
 | .p kt sz ag _ => .mp kt sz ag
 | .c l => .c (l.map (patC m))
 | .cw .. => .X
def normL (P : Program) : List TypeId → List V → List V
 | T :: Ts, v :: l => datV (normV P T v) :: normL P Ts l
 | _, l => l
def normG (P : Program) (gc : Bool) : List TypeId → List V → List V
 | T :: Ts, v :: l => cond gc (normV P T v) (datV (normV P T v)) :: normG P gc Ts l
 | _, l => l
def frzV (ro : List Nat) (m : Mem) : V → Option (V × Mem)
 | .w b => match toU ro m (.w b) with
   | some (u, m1) => some (.u u, m1)
   | none => none
 | .a l => match frzC m l with
   | some (l', m1) => some (.a l', m1)
   | none => none
 | v => some (v, m)
where frzC : Mem → List V → Option (List V × Mem)
 | m, [] => some ([], m)
 | m, .w b :: l => match toU ro m (.w b) with
   | some (u, m1) => match frzC m1 l with
     | some (l', m2) => some (.u u :: l', m2)
     | none => none
   | none => none
 | m, v :: l => match frzC m l with
   | some (l', m2) => some (v :: l', m2)
   | none => none
def frzL (ro : List Nat) : Mem → List V → Option (List V × Mem)
 | m, [] => some ([], m)
 | m, v :: l => match frzV ro m v with
   | some (v', m1) => match frzL ro m1 l with
     | some (l', m2) => some (v' :: l', m2)
     | none => none
   | none => none
def posL : List Nat → Nat → Nat → Nat
 | [], _, k => k
 | x :: l, b, k => cond (Nat.beq x b) k (posL l b (k + 1))
def nthN : List Nat → Nat → Nat
 | [], _ => 0
 | x :: _, 0 => x
 | _ :: l, n + 1 => nthN l n
def oneV : List V → V
 | [v] => v
 | l => .t l
def roEq (ro : List Nat) (m m' : Mem) : List Nat → Prop → Prop
 | [], K => K
 | b :: ix, K => cond (inL ro b) (mg m' b = mg m b ∧ roEq ro m m' ix K) (roEq ro m m' ix K)
def resX (rs : List RP) (x : V) : List V :=
 match rs, x with
 | [_], x => [x]
 | _, .t l => l
 | _, x => [x]
def oneR (rs : List RP) (xs : List V) : V :=
 match rs with
 | [_] => oneV xs
 | _ => .t xs
def post (rs : List RP) (bs : List BP) (F : PtT Prop (rs.flatMap RP.ps ++ bs.flatMap BP.ps)) (x : V) (m' : Mem) : Prop :=
 match pkR bs.length m' rs (resX rs x) with
 | some (os, m1) => match pkB bs.length m1 bs (List.range bs.length) with
   | some (os2, _) => apP False _ F (os ++ os2)
   | none => False
 | none => False
structure KN (P : Program) where
 f : FuncId → Mem → List V → Option (V × Mem)
 ok : ∀ g m a r, f g m a = some r → PRun P g m a fun x m' => x = r.1 ∧ m' = r.2
def KN.no {P : Program} : KN P := ⟨fun _ _ _ => none, fun _ _ _ _ h => nomatch h⟩
structure Nx (ro hr : List Nat) (D : Fz) (ρ : List Loc) (m : Mem) (chs : List Chunk) (D' : Fz) (ρ' : List Loc) (m' : Mem) (chs' : List Chunk) : Prop where
 le : Le D D'
 pre : ∃ s, ρ' = ρ ++ s
 keep : ∀ b, inL hr b = true → b < m.length → chs'[b]? = chs[b]?
 same : ∀ b, inL (hr ++ ro) b = true → b < m.length → mg m' b = mg m b
 len : m.length ≤ m'.length
def PostE (ro hr : List Nat) (D : Fz) (ρ : List Loc) (m : Mem) (chs C : List Chunk) (KS : V → Mem → Prop) (v : Value) (h' : Heap) : Prop :=
 ∃ D' ρ' m' chs' x, Nx ro hr D ρ m chs D' ρ' m' chs' ∧ SAt D' ρ' m' chs' C h' ∧ Rp D' ρ' v x ∧ KS x m'
def CallOk (P : Program) (X : Fz → List Loc → Prop) (ro hr : List Nat) (call : CallH) : Prop :=
 ∀ {g : FuncId} {args : List V} {m : Mem} {KS : V → Mem → Prop} {D : Fz} {ρ : List Loc} {chs C : List Chunk} {h : Heap} {vs : List Value}, X D ρ → call g args m KS → SAt D ρ m chs C h → RpL D ρ vs args → Run P g vs h (PostE ro hr D ρ m chs C KS)
def Stab (X : Fz → List Loc → Prop) : Prop := ∀ {D D' : Fz} {ρ : List Loc} (s : List Loc), X D ρ → Le D D' → X D' (ρ ++ s)
structure SP (P : Program) where
 f : List Nat → CallH → FuncId → List V → Mem → (V → Mem → Prop) → Option Prop
 ok : ∀ {ro hr : List Nat} {X : Fz → List Loc → Prop} {call : CallH}, Stab X → CallOk P X ro hr call → ∀ {g : FuncId} {args : List V} {m : Mem} {KS : V → Mem → Prop} {p : Prop}, f (hr ++ ro) call g args m KS = some p → p →
  ∀ {D : Fz} {ρ : List Loc} {chs C : List Chunk} {h : Heap} {vs : List Value}, X D ρ → SAt D ρ m chs C h → RpL D ρ vs args → Run P g vs h (PostE ro hr D ρ m chs C KS)
def SP.no {P : Program} : SP P := ⟨fun _ _ _ _ _ _ => none, fun {_ _ _ _} _ _ {_ _ _ _ _} h => by cases h⟩
structure SH (P : Program) where
 lo : List ((Nat × Nat × Nat) × Hint)
 jo : List ((Nat × Nat × Nat) × Hint)
 inl : List Nat
 ow : List Nat
 ps : List (Nat × List RP × List BP)
 own : Bool
 n : Nat
 kn : KN P
 gc : Bool
 sp : SP P
def findH : List ((Nat × Nat × Nat) × Hint) → Nat → Nat → Nat → Option Hint
 | [], _, _, _ => none
 | (k, h) :: l, f, r, n => cond (Nat.beq k.1 f && Nat.beq k.2.1 r && Nat.beq k.2.2 n) (some h) (findH l f r n)
def findP : List (Nat × List RP × List BP) → Nat → Option (List RP × List BP)
 | [], _ => none
 | (k, h) :: l, g => cond (Nat.beq k g) (some h) (findP l g)
def allIn (ix : List Nat) : List Nat → Bool
 | [] => true
 | b :: l => inL ix b && allIn ix l
def disj (hr : List Nat) : List Nat → Bool
 | [] => true
 | b :: l => !inL hr b && disj hr l
def below (n : Nat) : List Nat → Bool
 | [] => true
 | b :: l => Nat.ble (b + 1) n && below n l
def subM (m : Mem) (ix : List Nat) : Mem := ix.map fun b => renA (fun b => posL ix b 0) (mg m b)
def datM : Mem → Mem
 | [] => []
 | a :: m => datA a :: datM m
def canonK (ix : List Nat) (t : List V) (m : Mem) (K : List V → Mem → Prop) : Prop :=
 cond (allIn ix (refsL t) && allIn ix (ix.flatMap fun b => refsA (mg m b)) && below m.length ix) (K (renL (fun b => posL ix b 0) t) (subM m ix)) False
def canonS (n : Nat) (K : List V → Mem → Prop) (t : List V) (m : Mem) : Prop :=
 cond (Nat.ble m.length (n + 1)) (K t m) (canonK (clo m 1000 (refsL t ++ (m.take n).flatMap refsA) (List.range n)) t m K)
def callQ (P : Program) (kn : KN P) (g : FuncId) (m : Mem) (a : List V) (Q : V → Mem → Prop) : Prop :=
 match kn.f g m a with
 | some r => Q r.1 r.2
 | none => PRun P g m a Q
def callT (P : Program) (kn : KN P) (ro hr : List Nat) (g : FuncId) (ix : List Nat) (rs : List RP) (bs : List BP) (as' : List V) (m1 : Mem) (K : V → Mem → Prop) : Prop :=
 cond (disj hr ix && below m1.length ix && allIn ix (refsL as') && allIn ix (ix.flatMap fun b => refsA (mg m1 b)) && Nat.beq bs.length ix.length)
  (callQ P kn g (datM (subM m1 ix)) (renL (fun b => posL ix b 0) as') (post rs bs (mkP _ fun is =>
   roEq ro m1 (reB (nthN ix) (reR (nthN ix) (killM m1 ix) rs is).2.2 bs ix (reR (nthN ix) (killM m1 ix) rs is).2.1) ix
    (K (oneR rs (reR (nthN ix) (killM m1 ix) rs is).1) (reB (nthN ix) (reR (nthN ix) (killM m1 ix) rs is).2.2 bs ix (reR (nthN ix) (killM m1 ix) rs is).2.1))))) False
def patsA (m1 : Mem) (as' : List V) (ix : List Nat) : List BP := ix.map fun b => patA (subM m1 ix) (inL (refsL as') b) (renA (fun b => posL ix b 0) (mg m1 b))
def callS (P : Program) (H : SH P) (ro hr : List Nat) (fn : Func) (g : FuncId) (args : List V) (m : Mem) (K : V → Mem → Prop) : Prop :=
 match cond (inL H.ow g) (some (normL P fn.params.toList args, m)) (frzL (hr ++ ro) m (normL P fn.params.toList args)) with
 | none => False
 | some (as', m1) => match findP H.ps g with
   | some ps => callT P H.kn ro hr g (clo m1 1000 (refsL as') []) ps.1 ps.2 as' m1 K
   | none => callT P H.kn ro hr g (clo m1 1000 (refsL as') []) (fn.resultTypes.toList.map (patT P)) (patsA m1 as' (clo m1 1000 (refsL as') [])) as' m1 K
abbrev PostS := Ex → List V → Mem → Prop
def thenS (K : List V → Mem → Prop) (Q : PostS) : PostS
 | .nrm, t, h => K t h
 | .ext i, t, h => Q (.ext i) t h
 | .ret, t, h => Q .ret t h
def blockS (id : Nat) (Q : PostS) : PostS
 | .nrm, t, h => Q .nrm t h
 | .ext j, t, h => cond (Nat.beq j id) (Q .nrm t h) (Q (.ext j) t h)
 | .ret, t, h => Q .ret t h
def resL (P : Program) : List ResultVar → List V → Mem → (List V → Prop) → Prop
 | [], _, _, K => K []
 | .tmp i :: l, t, m, K => resL P l t m fun vs => K (vget t i :: vs)
 | .cell i T :: l, t, m, K => sLoad P T (vget t i) m fun v => resL P l t m fun vs => K (v :: vs)
def retG (P : Program) (gc : Bool) (fn : Func) (K : V → Mem → Prop) : PostS
 | .ext _, _, _ => False
 | _, t, m => resL P fn.results.toList t m fun vs => K (oneV (normG P gc fn.resultTypes.toList vs)) m
def frameG (P : Program) (gc : Bool) (fn : Func) (args : List V) : List V := normG P gc fn.params.toList args ++ List.replicate (fn.ntmps - args.length) .z
abbrev retS (P : Program) (fn : Func) (K : V → Mem → Prop) : PostS := retG P false fn K
abbrev frame0 (P : Program) (fn : Func) (args : List V) : List V := frameG P false fn args
abbrev SelfT := Nat → List Nat → List Nat → Code → PostS → List V → Mem → Prop
def wkV : V → V
 | .nl s => .c s []
 | x => x
def gcQ (gc : Option Nat) (K : V → Mem → Prop) (x : V) (m : Mem) : Prop :=
 match gc with
 | some n => canonS n (fun t m2 => K (vget t 0) m2 ∨ K (wkV (vget t 0)) m2) [x] m
 | none => K x m
def callH0 (P : Program) (H : SH P) (self : SelfT) (ro hr : List Nat) : CallH := fun g args m K =>
 match P.funcs[g]? with
 | none => False
 | some fn => cond (inL H.inl g)
  (match fn.body with
   | none => False
   | some c => cond (fn.name == "runtime.NumGoroutine") False (self g ro hr c (retG P H.gc fn (gcQ (cond H.gc (some m.length) none) K)) (frameG P H.gc fn args) m))
  (callS P H ro hr fn g args m K)
def callH (P : Program) (H : SH P) (self : SelfT) (ro hr : List Nat) : CallH := fun g args m K =>
 match H.sp.f (hr ++ ro) (callH0 P H self ro hr) g args m K with
 | some p => p
 | none => callH0 P H self ro hr g args m K
def gcT (gc : Option Nat) (K : List V → Mem → Prop) (t : List V) (m : Mem) : Prop :=
 match gc with
 | some n => canonS n K t m
 | none => K t m
def rnds (gc : Option Nat) (step : PostS → List V → Mem → Prop) (Q : PostS) : Nat → List V → Mem → Prop
 | 0, _, _ => False
 | n + 1, t, m => step (thenS (gcT gc (rnds gc step Q n)) Q) t m
inductive YC where
 | out | rd | it (b : Nat) (f : List Nat → List Nat → List V → Mem → (V → Mem → Prop) → Prop)
abbrev SelfY := YC → SelfT
def YC.sub : YC → YC
 | .it b f => .it b f
 | _ => .out
def YC.h (Y : YC) (ro hr : List Nat) (b : Nat) (args : List V) (m : Mem) (K : V → Mem → Prop) : Prop :=
 match Y with
 | .it b' f => cond (Nat.beq b b') (f ro hr args m K) False
 | _ => False
def setA : List V → List Tmp → List V → List V
 | t, p :: ps, v :: vs => setA (vset t p v) ps vs
 | t, _, _ => t
def isY (a : AB) (K : Prop) : Prop :=
 match a with
 | .tk => K
 | _ => False
theorem isY_iff {a : AB} {K : Prop} (h : isY a K) : a = .tk ∧ K := by
 cases a <;> first | exact ⟨rfl, h⟩ | exact h.elim
def noEx (c : Code) : Bool := match exitsOf c with | [] => true | _ => false
def vcC (P : Program) (H : SH P) (self : SelfY) (fi : Nat) : Code → YC → List Nat → List Nat → PostS → List V → Mem → Prop
 | .skip, _, _, _, Q, t, m => Q .nrm t m
 | .region _ ops d, Y, hr, ro, Q, t, m =>
   cond (ops.toList.all fun o => !isDefer o) (cond d (cond (drawB ops.toList ops.toList.length [] && Region.noSelect ops.toList.toArray) (drawS P H.gc ro hr (callH P H (self Y.sub) ro) ops.toList (canonS m.length (Q .nrm)) ops.toList.length [] [] t m) False)
    (opsSY P H.gc (hr ++ ro) (callH P H (self Y.sub) ro hr) (Y.h ro hr) ops.toList (Q .nrm) ops.toList t m)) False
 | .seq x y, Y, hr, ro, Q, t, m =>
   match findH H.jo fi (firstRegion y) m.length with
   | none => vcC P H self fi x Y hr ro (thenS (vcC P H self fi y Y hr ro Q) Q) t m
   | some h => cond (disj (hr ++ ro) (h.tk t m) && below m.length (h.bl.map (·.1))) (
     ∀ k : PtT Prop h.ps, allP h.ps (zipP (fun (A B : Prop) => A → B) h.ps (mkP h.ps fun is => vcC P H self fi y Y hr ro Q (h.st (mods x) t m is).1 (h.st (mods x) t m is).2) k) →
       vcC P H self fi x Y hr (roOf (h.base t m) 0 ++ ro) (thenS (fun t' m' => h.el (h.base t m) k t' m') Q) t m) False
 | .cond c x y, Y, hr, ro, Q, t, m => match evS t c with
   | .u (.b b) => cond b (vcC P H self fi x Y hr ro Q t m) (vcC P H self fi y Y hr ro Q t m)
   | _ => False
 | .block id c, Y, hr, ro, Q, t, m => vcC P H self fi c Y hr ro (blockS id Q) t m
 | .loop c, Y, hr, ro, Q, t, m =>
   match findH H.lo fi (firstRegion c) m.length with
   | none => rnds (cond H.gc (some m.length) none) (fun Q => vcC P H self fi c Y hr ro Q) Q H.n t m
   | some h => cond (disj (hr ++ ro) (h.tk t m) && below m.length (h.bl.map (·.1))) (
     ∃ (I : PtT Prop h.ps) (f : PtT Nat h.ps), h.el (h.base t m) I t m ∧
       allP h.ps (zipP (fun (A B : Prop) => A → B) h.ps I (zipP (fun (n : Nat) (B : Nat → Prop) => B n) h.ps f (mkP h.ps fun is n =>
        vcC P H self fi c Y hr (roOf (h.base t m) 0 ++ ro) (thenS (fun t' m' => h.el (h.base t m) (zipP (fun (A : Prop) n' => A ∧ n' < n) h.ps I f) t' m') Q) (h.st (mods c) t m is).1 (h.st (mods c) t m is).2)))) False
 | .exit id, _, _, _, Q, t, m => Q (.ext id) t m
 | .ret, _, _, _, Q, t, m => Q .ret t m
 | .scope c, Y, hr, ro, Q, t, m => vcC P H self fi c Y hr ro Q t m
 | .label _, _, _, _, Q, t, m => Q .nrm t m
 | .rangeFunc g ps assign body, .out, hr, ro, Q, t, m =>
   match evS t g with
   | .f gi as' cs => match P.funcs[gi]? with
     | none => False
     | some fn => match fn.body with
       | none => False
       | some c => cond (fn.name == "runtime.NumGoroutine" || !noEx body) False (
         self (.it m.length fun ro' hr' args m1 K => isY (mg m1 m.length) (cond (Nat.beq args.length ps.size) (vcC P H self fi assign .rd hr' ro'
          (thenS (fun t2 m2 => vcC P H self fi body .rd hr' ro' (fun e _ m3 => match e, mg m3 m.length with
           | .nrm, .x => K (.u (.b true)) (ms m3 m.length .tk)
           | _, _ => False) t2 m2) fun _ _ _ => False) (setA t ps.toList args) (ms m1 m.length .x)) False))
          gi ro hr c (retG P H.gc fn fun _ m' => isY (mg m' m.length) (Q .nrm t (ms m' m.length .x))) (frameG P H.gc fn (as' ++ [.y m.length] ++ cs)) (m ++ [.tk]))
   | _ => False
 | _, _, _, _, _, _, _ => False
def runS (P : Program) (H : SH P) : Nat → SelfY
 | 0, _, _, _, _, _, _, _, _ => False
 | n + 1, Y, fi, ro, hr, c, Q, t, m => vcC P H (runS P H n) fi c Y hr ro Q t m
def endT (Q : V → Mem → Prop) (x : V) (m : Mem) (ix : List Nat) : Prop :=
 cond (allIn ix (refsV x) && allIn ix (ix.flatMap fun b => refsA (mg m b)) && below m.length ix) (Q (renV (fun b => posL ix b 0) x) (subM m ix)) False
def frzX (own : Bool) (m : Mem) : V → Option (V × Mem)
 | .t l => cond own (some (.t l, m)) (match frzL [] m l with | some (l', m1) => some (.t l', m1) | none => none)
 | x => cond own (some (x, m)) (frzV [] m x)
def endS (own : Bool) (n : Nat) (Q : V → Mem → Prop) (x : V) (m : Mem) : Prop :=
 match frzX own m x with
 | none => False
 | some (x1, m1) => endT Q x1 m1 (clo m1 1000 (refsV x1 ++ (m1.take n).flatMap refsA) (List.range n))
def vcFunS (P : Program) (H : SH P) (n : Nat) (f : FuncId) (fn : Func) (m : Mem) (args : List V) (Q : V → Mem → Prop) : Prop :=
 match fn.body with
 | none => False
 | some c => runS P H n .out f [] [] c (retS P fn (endS H.own m.length Q)) (frame0 P fn args) m
end Go.Proofs.YtaogfopaalancaaDoor
/- The symbolic engine, part c: values and cells; operations that leave the memory alone are told rightly. -/
set_option linter.unusedVariables false
namespace Go.Proofs.YtaogfopaalancaaDoor
open Go
variable {P : Program} {D D' : Fz} {ρ : List Loc} {m : Mem} {chs C : List Chunk} {h : Heap} {T : List Value} {t : List V}
theorem get_app {α : Type} {l s : List α} {i : Nat} {x : α} (h : l[i]? = some x) : (l ++ s)[i]? = some x := by
 rw [List.getElem?_append_left (List.getElem?_eq_some_iff.1 h).1]; exact h
theorem MRel.mono {ag : Bool} {m : MV} {rows : List (MK × List U)} (hr : MRel D ag m rows) (l : Le D D') : MRel D' ag m rows := by
 induction hr with
 | nil => exact .nil
 | cons a b _ ih => exact .cons (a.mono l) b ih
section
variable (l : Le D D') (s : List Loc)
include l
theorem Rp.mono {v : Value} {x : V} (hr : Rp D ρ v x) : Rp D' (ρ ++ s) v x :=
 @Rp.rec D ρ (fun v x _ => Rp D' (ρ ++ s) v x) (fun vs xs _ => RpL D' (ρ ++ s) vs xs) (fun vs xs _ => RpC D' (ρ ++ s) vs xs)
  (fun h => .u (h.mono l)) (fun h => .r (get_app h)) (fun h1 h2 h3 h4 => .e (get_app h1) h2 h3 h4) (fun h1 h2 h3 => .g (get_app h1) h2 h3) (fun h1 h2 n => .q (h1.mono l) h2 n) (fun h => .w (get_app h)) (fun h => .c (h.mono l))
  (fun h => .m (get_app h)) .nm .nl (fun _ _ a b => .f a b) (fun _ a => .a a) (fun _ a => .t a) .z (fun h => .y (get_app h)) (fun h1 h2 h3 h4 h5 h6 h7 => .v (get_app h1) h2 h3 h4 h5 h6 h7) (fun h1 h2 h3 => .sl (get_app h1) h2 h3) .nil (fun _ _ a b => .cons a b) .nil (fun _ hn _ a b => .cons a hn b) (fun hl _ a => .n hl a) v x hr
theorem RpL.mono {v : List Value} {x : List V} (hr : RpL D ρ v x) : RpL D' (ρ ++ s) v x :=
 @RpL.rec D ρ (fun v x _ => Rp D' (ρ ++ s) v x) (fun vs xs _ => RpL D' (ρ ++ s) vs xs) (fun vs xs _ => RpC D' (ρ ++ s) vs xs)
  (fun h => .u (h.mono l)) (fun h => .r (get_app h)) (fun h1 h2 h3 h4 => .e (get_app h1) h2 h3 h4) (fun h1 h2 h3 => .g (get_app h1) h2 h3) (fun h1 h2 n => .q (h1.mono l) h2 n) (fun h => .w (get_app h)) (fun h => .c (h.mono l))
  (fun h => .m (get_app h)) .nm .nl (fun _ _ a b => .f a b) (fun _ a => .a a) (fun _ a => .t a) .z (fun h => .y (get_app h)) (fun h1 h2 h3 h4 h5 h6 h7 => .v (get_app h1) h2 h3 h4 h5 h6 h7) (fun h1 h2 h3 => .sl (get_app h1) h2 h3) .nil (fun _ _ a b => .cons a b) .nil (fun _ hn _ a b => .cons a hn b) (fun hl _ a => .n hl a) v x hr
theorem RpC.mono {v : List Value} {x : List V} (hr : RpC D ρ v x) : RpC D' (ρ ++ s) v x :=
 @RpC.rec D ρ (fun v x _ => Rp D' (ρ ++ s) v x) (fun vs xs _ => RpL D' (ρ ++ s) vs xs) (fun vs xs _ => RpC D' (ρ ++ s) vs xs)
  (fun h => .u (h.mono l)) (fun h => .r (get_app h)) (fun h1 h2 h3 h4 => .e (get_app h1) h2 h3 h4) (fun h1 h2 h3 => .g (get_app h1) h2 h3) (fun h1 h2 n => .q (h1.mono l) h2 n) (fun h => .w (get_app h)) (fun h => .c (h.mono l))
  (fun h => .m (get_app h)) .nm .nl (fun _ _ a b => .f a b) (fun _ a => .a a) (fun _ a => .t a) .z (fun h => .y (get_app h)) (fun h1 h2 h3 h4 h5 h6 h7 => .v (get_app h1) h2 h3 h4 h5 h6 h7) (fun h1 h2 h3 => .sl (get_app h1) h2 h3) .nil (fun _ _ a b => .cons a b) .nil (fun _ hn _ a b => .cons a hn b) (fun hl _ a => .n hl a) v x hr
theorem Ent.mono {L : Loc} {ab : AB} {ch : Chunk} (hr : Ent D ρ L ab ch) : Ent D' (ρ ++ s) L ab ch := by
 cases hr with
 | c h => exact .c (h.mono l s)
 | w o h => exact .w (o.mono l) h
 | o h => exact .o (I := _) (Ob.mono _ h l)
 | p a b c => exact .p a (b.mono l) c
 | tk h => exact .tk h
 | x => exact .x
 | cw a b h c d e => exact .cw a b (h.mono l s) c d e
end
theorem RpL.get (F : RpL D ρ T t) (i : Nat) : Rp D ρ (lget T i) (vget t i) := by
 induction t generalizing T i with
 | nil => cases F; exact .z
 | cons x t ih =>
   cases F with
   | cons a b => cases i with
     | zero => exact a
     | succ i => exact ih b i
theorem RpL.set {v : Value} {x : V} (F : RpL D ρ T t) (i : Nat) (hv : Rp D ρ v x) : RpL D ρ (lset T i v) (vset t i x) := by
 induction t generalizing T i with
 | nil => cases F; exact .nil
 | cons y t ih =>
   cases F with
   | cons a b => cases i with
     | zero => exact .cons hv b
     | succ i => exact .cons a (ih b i)
theorem RpL.put {v : Value} {x : V} {d : Option Tmp} (F : RpL D ρ T t) (hv : Rp D ρ v x) : RpL D ρ (lput T d v) (vput t d x) := by
 cases d with
 | none => exact F
 | some i => exact F.set i hv
theorem RpL.len' {vs : List Value} {xs : List V} (F : RpL D ρ vs xs) : vs.length = xs.length := by
 induction xs generalizing vs with
 | nil => cases F; rfl
 | cons x xs ih => cases F with | cons a b => simp [ih b]
theorem RpL.at {vs : List Value} {xs : List V} (F : RpL D ρ vs xs) {i : Nat} {v : Value} (h : vs[i]? = some v) : Rp D ρ v (vget xs i) := by
 induction xs generalizing vs i with
 | nil => cases F; simp at h
 | cons x xs ih => cases F with
   | cons a b => cases i with
     | zero => simp at h; subst h; exact a
     | succ i => exact ih b (by simpa using h)
theorem RpL.app {vs ws : List Value} {xs ys : List V} (F : RpL D ρ vs xs) (G : RpL D ρ ws ys) : RpL D ρ (vs ++ ws) (xs ++ ys) := by
 induction xs generalizing vs with
 | nil => cases F; exact G
 | cons x xs ih => cases F with | cons a b => exact .cons a (ih b)
theorem RpC.app {vs ws : List Value} {xs ys : List V} (F : RpC D ρ vs xs) (G : RpC D ρ ws ys) : RpC D ρ (vs ++ ws) (xs ++ ys) := by
 induction xs generalizing vs with
 | nil => cases F; exact G
 | cons x xs ih => cases F with
   | cons a n b => exact .cons a n (ih b)
   | n hl b => rw [List.append_assoc]; exact .n hl (ih b)
theorem ofV1_S (v : Value) : Rp D ρ v (ofV1 v) ∧ ∀ k w l, ofV1 v ≠ .n k w l := by
 unfold ofV1
 split <;> first
  | exact ⟨.u (.int _ _), by simp⟩ | exact ⟨.u (.bool _), by simp⟩ | exact ⟨.u (.str _), by simp⟩ | exact ⟨.u .pn, by simp⟩ | exact ⟨.nl, by simp⟩ | exact ⟨.nm, by simp⟩ | exact ⟨.f (xs := []) (ys := []) .nil .nil, by simp⟩ | exact ⟨.z, by simp⟩
theorem ofV1L_S : ∀ (l : List Value), RpC D ρ l (l.map ofV1)
 | [] => .nil
 | v :: l => .cons (ofV1_S v).1 (ofV1_S (D := D) (ρ := ρ) v).2 (ofV1L_S l)
theorem ofV_S (v : Value) : Rp D ρ v (ofV v) := by
 unfold ofV
 split
 · exact .a (ofV1L_S _)
 · exact (ofV1_S _).1
theorem ev_S (F : RpL D ρ T t) (x : Operand) : Rp D ρ (ev T x) (evS t x) := by
 cases x with
 | tmp i => exact F.get i
 | const v => exact ofV_S v
 | func f => exact .f (xs := []) (ys := []) .nil .nil
 | global g => exact .z
theorem evL_S (F : RpL D ρ T t) : ∀ (l : List Operand), RpL D ρ (l.map (ev T)) (l.map (evS t))
 | [] => .nil
 | x :: l => .cons (ev_S F x) (evL_S F l)
theorem conc1_S {v a : Value} {x : V} (h : conc1 x = some a) (hr : Rp D ρ v x) : v = a := by
 unfold conc1 at h
 split at h <;> cases h <;> (cases hr; rename_i hr; cases hr; rfl)
theorem concL_S : ∀ {vs as' : List Value} {xs : List V}, concL xs = some as' → RpC D ρ vs xs → vs = as'
 | vs, as', [], h, hr => by cases hr; cases h; rfl
 | vs, as', x :: xs, h, hr => by
   simp only [concL] at h
   split at h
   · rename_i a as' h1 h2
     cases h
     cases hr with
     | cons a n b => rw [conc1_S h1 a, concL_S h2 b]
     | n hl b => simp [conc1] at h1
   · cases h
theorem conc_S {v a : Value} {x : V} (h : conc x = some a) (hr : Rp D ρ v x) : v = a := by
 unfold conc at h
 split at h
 · split at h
   · rename_i hl
     cases h
     cases hr with
     | a hc => rw [concL_S hl hc]
   · cases h
 · exact conc1_S h hr
theorem absV_S (v : Value) : Rp D ρ v (absV v) := by
 unfold absV
 split <;> first | exact .u (.int _ _) | exact .u (.bool _) | exact .u (.str _) | exact .z
theorem dropC_S {l r : List V} : ∀ {o : Nat} {vs : List Value}, dropC o l = some r → RpC D ρ vs l → ∃ p s, vs = p ++ s ∧ p.length = o ∧ RpC D ρ s r := by
 induction l with
 | nil =>
   intro o vs h hr
   cases o with
   | zero => simp only [dropC, Option.some.injEq] at h; subst h; exact ⟨[], vs, rfl, rfl, hr⟩
   | succ o => simp [dropC] at h
 | cons x l ih =>
   intro o vs h hr
   cases o with
   | zero => simp only [dropC, Option.some.injEq] at h; subst h; exact ⟨[], vs, rfl, rfl, hr⟩
   | succ o =>
     simp only [dropC] at h
     cases hc : (Nat.ble (wd x) (o + 1) && !Nat.beq (wd x) 0) with
     | false => rw [hc] at h; cases h
     | true =>
       rw [hc] at h
       simp only [Bool.and_eq_true] at hc
       have hle := Nat.le_of_ble_eq_true hc.1
       cases hr with
       | cons a n b =>
         have hw : wd x = 1 := by cases x <;> first | rfl | exact absurd rfl (n _ _ _)
         rw [hw] at h
         obtain ⟨p, s, rfl, hp, hs⟩ := ih h b
         exact ⟨_ :: p, s, rfl, by simp at hp ⊢; omega, hs⟩
       | n hl b =>
         obtain ⟨p, s, rfl, hp, hs⟩ := ih h b
         refine ⟨_ ++ p, s, (List.append_assoc _ _ _).symm, ?_, hs⟩
         simp only [wd] at hle hp
         simp [hl, hp]; omega
theorem prefC_S {l r : List V} : ∀ {n : Nat} {vs : List Value}, prefC n l = some r → RpC D ρ vs l → ∃ p s, vs = p ++ s ∧ p.length = n ∧ RpC D ρ p r := by
 induction l generalizing r with
 | nil =>
   intro o vs h hr
   cases o with
   | zero => simp only [prefC, Option.some.injEq] at h; subst h; exact ⟨[], vs, rfl, rfl, .nil⟩
   | succ o => simp [prefC] at h
 | cons x l ih =>
   intro o vs h hr
   cases o with
   | zero => simp only [prefC, Option.some.injEq] at h; subst h; exact ⟨[], vs, rfl, rfl, .nil⟩
   | succ o =>
     simp only [prefC] at h
     cases hc : (Nat.ble (wd x) (o + 1) && !Nat.beq (wd x) 0) with
     | false => rw [hc] at h; cases h
     | true =>
       rw [hc] at h
       simp only [Bool.and_eq_true] at hc
       have hle := Nat.le_of_ble_eq_true hc.1
       simp only [cond_true] at h
       split at h
       · rename_i r' hr'
         cases h
         cases hr with
         | cons a n b =>
           have hw : wd x = 1 := by cases x <;> first | rfl | exact absurd rfl (n _ _ _)
           rw [hw] at hr'
           obtain ⟨p, s, rfl, hp, hs⟩ := ih hr' b
           exact ⟨_ :: p, s, rfl, by simp at hp ⊢; omega, .cons a n hs⟩
         | n hl b =>
           obtain ⟨p, s, rfl, hp, hs⟩ := ih hr' b
           refine ⟨_ ++ p, s, (List.append_assoc _ _ _).symm, ?_, .n hl hs⟩
           simp only [wd] at hle hp
           simp [hl, hp]; omega
       · cases h
theorem wds_len {l : List V} : ∀ {vs : List Value}, RpC D ρ vs l → vs.length = wds l := by
 induction l with
 | nil => intro vs h; cases h; rfl
 | cons x l ih =>
   intro vs h
   cases h with
   | cons a n b =>
     have hw : wd x = 1 := by cases x <;> first | rfl | exact absurd rfl (n _ _ _)
     simp only [wds, hw, List.length_cons, ih b]; omega
   | n hl b => simp [wds, wd, hl, ih b]
theorem putC_S {new l r : List V} {ns : List Value} (hn : RpC D ρ ns new) : ∀ {o : Nat} {vs : List Value}, putC new o l = some r → RpC D ρ vs l → o + ns.length ≤ vs.length ∧ RpC D ρ (splice vs o ns) r := by
 have sp : ∀ (a b c : List Value), a.length = b.length → splice (a ++ c) 0 b = b ++ c := by
  intro a
  induction a with
  | nil => intro b c h; cases b with | nil => cases c <;> rfl | cons _ _ => simp at h
  | cons x a ih => intro b c h; cases b with | nil => simp at h | cons y b => simp only [List.cons_append, splice]; rw [ih b c (by simpa using h)]
 have sp2 : ∀ (a c b : List Value) (k : Nat), splice (a ++ c) (a.length + k) b = a ++ splice c k b := by
  intro a c b k
  cases b with
  | nil => rw [splice_nil, splice_nil]
  | cons y b =>
    induction a with
    | nil => rw [List.nil_append, List.nil_append, List.length_nil, Nat.zero_add]
    | cons x a ih => rw [List.length_cons, show a.length + 1 + k = (a.length + k) + 1 by omega, List.cons_append, splice, ih, List.cons_append]
 induction l generalizing r with
 | nil =>
   intro o vs h hr
   cases o with
   | zero =>
     simp only [putC] at h
     split at h
     · rename_i r' hr'
       cases h
       obtain ⟨p, s, rfl, hp, hs⟩ := dropC_S hr' hr
       rw [← wds_len hn] at hp
       exact ⟨by simp [hp], by rw [sp _ _ _ hp]; exact hn.app hs⟩
     · cases h
   | succ o => simp [putC] at h
 | cons x l ih =>
   intro o vs h hr
   cases o with
   | zero =>
     simp only [putC] at h
     split at h
     · rename_i r' hr'
       cases h
       obtain ⟨p, s, rfl, hp, hs⟩ := dropC_S hr' hr
       rw [← wds_len hn] at hp
       exact ⟨by simp [hp], by rw [sp _ _ _ hp]; exact hn.app hs⟩
     · cases h
   | succ o =>
     simp only [putC] at h
     cases hc : (Nat.ble (wd x) (o + 1) && !Nat.beq (wd x) 0) with
     | false => rw [hc] at h; cases h
     | true =>
       rw [hc] at h
       simp only [Bool.and_eq_true] at hc
       have hle := Nat.le_of_ble_eq_true hc.1
       simp only [cond_true] at h
       split at h
       · rename_i r' hr'
         cases h
         cases hr with
         | cons a n b =>
           have hw : wd x = 1 := by cases x <;> first | rfl | exact absurd rfl (n _ _ _)
           rw [hw] at hr'
           obtain ⟨h1, h2⟩ := ih hr' b
           refine ⟨by simp at h1 ⊢; omega, ?_⟩
           cases ns with
           | nil => rw [splice_nil] at h2 ⊢; exact .cons a n h2
           | cons y ns => exact .cons a n h2
         | n hl b =>
           obtain ⟨h1, h2⟩ := ih hr' b
           simp only [wd] at h1 h2 hle
           refine ⟨by simp [hl]; omega, ?_⟩
           rw [show o + 1 = (List.map (Value.int _) _).length + (o + 1 - (List.map (Value.int _) _).length) by rw [List.length_map, hl]; omega, sp2]
           rw [List.length_map, hl]
           exact .n hl h2
       · cases h
theorem mg_eq : ∀ {m : Mem} {i : Nat}, i < m.length → m[i]? = some (mg m i)
 | [], _, h => by simp at h
 | _ :: _, 0, _ => rfl
 | _ :: m, i + 1, h => by simpa [mg] using mg_eq (m := m) (by simpa using h)
theorem mg_lt {m : Mem} {i : Nat} (h : mg m i ≠ .x) : i < m.length := by
 induction m generalizing i with
 | nil => exact absurd rfl h
 | cons a m ih => cases i with
   | zero => simp
   | succ i => have := ih (i := i) h; simp; omega
theorem SAt.get (M : SAt D ρ m chs C h) {b : Nat} (hb : mg m b ≠ .x) : ∃ L ch, ρ[b]? = some L ∧ chs[b]? = some ch ∧ Ent D ρ L (mg m b) ch := by
 have hlt := mg_lt hb
 have h1 : b < ρ.length := by rw [M.len]; exact hlt
 have h2 : b < chs.length := by rw [M.lch]; exact hlt
 exact ⟨ρ[b], chs[b], List.getElem?_eq_getElem h1, List.getElem?_eq_getElem h2, M.ent b _ _ _ (List.getElem?_eq_getElem h1) (mg_eq hlt) (List.getElem?_eq_getElem h2)⟩
theorem SAt.own (M : SAt D ρ m chs C h) {b : Nat} {ch : Chunk} (hc : chs[b]? = some ch) {p : Nat × Obj} (hp : p ∈ ch) : h[p.1]? = some p.2 :=
 M.st.own p (List.mem_flatten.2 ⟨ch, List.mem_append.2 (.inl (List.mem_of_getElem? hc)), hp⟩)
def Cov (D : Fz) (chs : List Chunk) (bs : List Nat) (bb : Nat) (ob : Obj) : Prop := D bb = some ob ∨ ∃ b ch, inL bs b = true ∧ chs[b]? = some ch ∧ (bb, ob) ∈ ch
def Hs (D : Fz) (chs : List Chunk) (bs : List Nat) (w : World) : Prop := ∀ bb ob, Cov D chs bs bb ob → w.heap[bb]? = some ob
theorem SAt.hs (M : SAt D ρ m chs C h) (bs : List Nat) {w : World} (hw : w.heap = h) : Hs D chs bs w := by
 rintro bb ob (hd | ⟨b, ch, -, hc, hp⟩)
 · rw [hw]; exact (M.st.fz bb ob hd).1
 · rw [hw]; exact M.own hc hp
theorem inL_iff : ∀ {l : List Nat} {b : Nat}, inL l b = true ↔ b ∈ l
 | [], b => by simp [inL]
 | x :: l, b => by
   simp only [inL, Bool.or_eq_true, List.mem_cons, inL_iff (l := l)]
   constructor
   · rintro (h | h)
     · exact .inl (Nat.eq_of_beq_eq_true h).symm
     · exact .inr h
   · rintro (rfl | h)
     · exact .inl (Nat.beq_refl _)
     · exact .inr h
end Go.Proofs.YtaogfopaalancaaDoor
/- The symbolic engine, part d: operations that leave the memory alone are told rightly. -/
set_option linter.unusedVariables false
namespace Go.Proofs.YtaogfopaalancaaDoor
open Go
variable {P : Program} {D D' : Fz} {ρ : List Loc} {m : Mem} {chs C : List Chunk} {h : Heap} {T : List Value} {t : List V}
theorem idxK_spec {i : Int} {n : Nat} {K : Nat → Prop} (hh : idxK i n K) : ∃ j : Nat, i = .ofNat j ∧ j < n ∧ K j := by
 unfold idxK at hh
 split at hh
 · obtain ⟨h1, h2⟩ := cond_spec hh
   exact ⟨_, rfl, Nat.le_of_ble_eq_true h1, h2⟩
 · exact hh.elim
theorem elL_spec {α : Type} {l : List α} {k : Int} {K : α → Prop} (hh : elL l k K) : 0 ≤ k ∧ ∃ r, l[k.toNat]? = some r ∧ K r := by
 unfold elL at hh
 split at hh
 · rename_i i
   split at hh
   · rename_i r hr; exact ⟨Int.natCast_nonneg i, r, hr, hh⟩
   · exact hh.elim
 · exact hh.elim
theorem oP_spec {α : Type} {o : Option α} {K : α → Prop} (hh : oP o K) : ∃ c, o = some c ∧ K c := by
 unfold oP at hh
 split at hh
 · exact ⟨_, rfl, hh⟩
 · exact hh.elim
theorem dU_spec {z : Value × Nat} {o : Option U} {K : U → Prop} (hh : dU z o K) : ∃ u, o = some u ∧ K u := by
 unfold dU at hh
 split at hh
 · unfold dI at hh; split at hh
   · obtain ⟨h1, h2⟩ := kindEq_spec hh; subst h1; exact ⟨_, rfl, h2⟩
   · exact hh.elim
 · unfold dB at hh; split at hh
   · exact ⟨_, rfl, hh⟩
   · exact hh.elim
 · unfold dS at hh; split at hh
   · exact ⟨_, rfl, hh⟩
   · exact hh.elim
 · unfold dL at hh; split at hh
   · obtain ⟨h1, h2⟩ := cond_spec hh
     have := Nat.eq_of_beq_eq_true h1
     subst this
     exact ⟨_, rfl, h2⟩
   · exact hh.elim
 · unfold dP at hh; split at hh
   · exact ⟨_, rfl, hh⟩
   · exact hh.elim
 · exact hh.elim
theorem ug_eq : ∀ (l : List U) (i : Nat), ug l i = l[i]?
 | [], _ => by simp [ug]
 | _ :: _, 0 => rfl
 | _ :: l, i + 1 => by simp [ug, ug_eq l i]
theorem dUs_spec : ∀ {zs : List (Value × Nat)} {r : List U} {o : Nat} {K : List U → Prop}, dUs zs r o K → ∃ us, us.length = zs.length ∧ (∀ j u, us[j]? = some u → r[o + j]? = some u) ∧ K us
 | [], r, o, K, hh => ⟨[], rfl, by simp, hh⟩
 | z :: zs, r, o, K, hh => by
   obtain ⟨u, hu, h2⟩ := dU_spec hh
   obtain ⟨us, hl, hg, hK⟩ := dUs_spec h2
   refine ⟨u :: us, by simp [hl], fun j v hv => ?_, hK⟩
   cases j with
   | zero => simp at hv; subst hv; rw [ug_eq] at hu; simpa using hu
   | succ j => have := hg j v (by simpa using hv); rw [show o + (j + 1) = o + 1 + j by omega]; exact this
theorem RpC.ofU : ∀ {vs : List Value} {us : List U}, RdL D vs us → RpC D ρ vs (us.map .u)
 | _, _, .nil => .nil
 | _, _, .cons a b => .cons (.u a) (by simp) (RpC.ofU b)
theorem RpC.toU : ∀ {us : List U} {l : List V} {vs : List Value}, cellU l = some us → RpC D ρ vs l → RdL D vs us
 | us, [], vs, hc, hr => by cases hr; cases hc; exact .nil
 | us, x :: l, vs, hc, hr => by
   cases x with
   | u x =>
     simp only [cellU] at hc
     split at hc
     · rename_i us' hus
       cases hc
       cases hr with
       | cons a n b => cases a with | u a => exact .cons a (RpC.toU hus b)
     · cases hc
   | nl s =>
     simp only [cellU] at hc
     split at hc
     · rename_i us' hus
       cases hc
       cases hr with
       | cons a n b => cases a; exact .cons (.nil _ _ _) (RpC.toU hus b)
     · cases hc
   | _ => simp [cellU] at hc
theorem layS_one {T : TypeId} {z : Value × Nat} (hl : layS P T = some (.one z)) : layOf P T = some (.one z.1) := by
 unfold layS at hl
 cases h1 : layOf P T with
 | none => rw [h1] at hl; simp at hl
 | some l =>
   rw [h1] at hl
   cases l with
   | one z' => cases h2 : leafs P 9 T with
     | nil => rw [h2] at hl; simp at hl
     | cons s ss => rw [h2] at hl; simp at hl; subst hl; rfl
   | many cs => cases hb : Nat.beq cs.length (leafs P 9 T).length <;> simp [hb] at hl
theorem layS_many {T : TypeId} {zs : List (Value × Nat)} (hl : layS P T = some (.many zs)) : ∃ cs, layOf P T = some (.many cs) ∧ cs.length = zs.length := by
 unfold layS at hl
 cases h1 : layOf P T with
 | none => rw [h1] at hl; simp at hl
 | some l =>
   rw [h1] at hl
   cases l with
   | one z' => cases h2 : leafs P 9 T with
     | nil => rw [h2] at hl; simp at hl
     | cons s ss => rw [h2] at hl; simp at hl
   | many cs => cases hb : Nat.beq cs.length (leafs P 9 T).length with
     | false => simp [hb] at hl
     | true =>
       simp [hb] at hl; subst hl
       have := Nat.eq_of_beq_eq_true hb
       exact ⟨cs, rfl, by simp [this]⟩
theorem run_ld1 {S : TypeId} {z : Value} (hl : layOf P S = some (.one z)) {b o : Nat} {v : Value} {w : World} (hc : hcell w.heap ⟨b, o, none⟩ = some v) : (loadVar S ⟨b, o, none⟩).run P w = .ok v w := by
 obtain ⟨ha, -, -⟩ := layOf_one hl
 have hv' : w.cell? ⟨b, o, none⟩ = some v := hc
 simp [loadVar, ha, Go.load, Sem.run, hv']
theorem run_ldN {S : TypeId} {cs : List Value} (hl : layOf P S = some (.many cs)) {b o : Nat} {vs : List Value} {w : World} (hn : vs.length = cs.length) (hc : ∀ j v, vs[j]? = some v → hcell w.heap ⟨b, o + j, none⟩ = some v) :
 (loadVar S ⟨b, o, none⟩).run P w = .ok (.agg vs.toArray) w := by
 obtain ⟨ha, i, hi, hs⟩ := layOf_many hl
 have hr : (loadCells ⟨b, o, none⟩ vs.length).run P w = .ok vs.toArray w :=
  run_loadCells_list (P := P) w ⟨b, o, none⟩ vs (fun j v hv => by rw [add_plain]; exact hc j v hv)
 simp [loadVar, ha, run_sizeOf1 hi, hs, ← hn, hr]
theorem run_pt1 {S : TypeId} {z : Value} (hl : layOf P S = some (.one z)) {xs : Array Value} {i : Nat} {v : Value} (hc : xs[i]? = some v) (w : World) : (part S xs i).run P w = .ok v w := by
 obtain ⟨ha, -, -⟩ := layOf_one hl
 simp only [part, Sem.run_bind, ha, Result.andThen_ok, Bool.false_eq_true, if_false, hc]
 rfl
theorem run_ptN {S : TypeId} {cs : List Value} (hl : layOf P S = some (.many cs)) {p vs s : List Value} (hn : vs.length = cs.length) (w : World) :
 (part S (p ++ (vs ++ s)).toArray p.length).run P w = .ok (.agg vs.toArray) w := by
 obtain ⟨ha, i, hi, hs⟩ := layOf_many hl
 simp only [part, Sem.run_bind, ha, Result.andThen_ok, if_true, run_sizeOf1 hi, Sem.run_pure]
 congr 2
 simp [hs, ← hn]
theorem Rd.pp_iff {p o : Nat} {c : List U} (hr : Rd D (.pointer (some ⟨p, o, none⟩)) (.p (some c))) : ∃ (arr : Array Value) (S : TypeId) (f : Nat × Nat) (v : Nat → Value), D p = some (.cells arr S f) ∧
 (∀ j u, c[j]? = some u → arr[o + j]? = some (v j)) ∧ ∀ j u, c[j]? = some u → Rd D (v j) u := by
 cases hr with
 | pp b o arr S f us v h1 h2 h3 => exact ⟨arr, S, f, v, h1, h2, h3⟩
theorem hcell_w {w : World} {b : Nat} {c : Array Value} {e : TypeId} {f : Nat × Nat} (hb : w.heap[b]? = some (.cells c e f)) (o : Nat) : hcell w.heap ⟨b, o, none⟩ = c[o]? := hcell_of hb o
theorem load1_S {S : TypeId} {z : Value × Nat} (hl : layS P S = some (.one z)) {a : V} {va : Value} {KS : V → Prop} (hs : load1 z a m KS) (M : SAt D ρ m chs C h) (ha : Rp D ρ va a) {bs : List Nat} (hbs : ∀ b, b ∈ refsV a → inL bs b = true) :
 ∃ bb oo v x, va = .pointer (some ⟨bb, oo, none⟩) ∧ KS x ∧ Rp D ρ v x ∧ ∀ w, Hs D chs bs w → (loadVar S ⟨bb, oo, none⟩).run P w = .ok v w := by
 have hl := layS_one hl
 cases a with
 | r b o =>
   simp only [load1] at hs
   split at hs
   · rename_i cells hm
     obtain ⟨L, ch, h1, h2, h3⟩ := M.get (b := b) (by rw [hm]; simp)
     rw [hm] at h3
     cases h3 with
     | c hc =>
       rename_i arr S'
       split at hs
       · rename_i v l hd
         obtain ⟨hk, hK⟩ := cond_spec hs
         obtain ⟨p, s, rfl, hp, hr⟩ := dropC_S hd hc
         cases ha with
         | r ha =>
           rw [h1] at ha; cases ha
           cases hr with
           | cons x n y =>
             refine ⟨_, _, _, _, rfl, hK, x, fun w hw => run_ld1 hl ?_⟩
             rw [hcell_w (hw L.b _ (.inr ⟨b, _, hbs b (by simp [refsV]), h2, List.mem_singleton_self _⟩))]
             simp [← hp]
           | n hl' y => simp [shOk] at hk
       · exact hs.elim
   · exact hs.elim
 | g b o w k =>
   simp only [load1] at hs
   split at hs
   · rename_i cells hm
     obtain ⟨L, ch, h1, h2, h3⟩ := M.get (b := b) (by rw [hm]; simp)
     rw [hm] at h3
     cases h3 with
     | c hc =>
       rename_i arr S'
       split at hs
       · rename_i k' w' l r hd
         obtain ⟨hk, hK⟩ := cond_spec hs
         simp only [Bool.and_eq_true] at hk
         obtain ⟨p, s, rfl, hp, hr⟩ := dropC_S hd hc
         obtain ⟨h0, n, hn, hK⟩ := elL_spec hK
         have hk3 : k' = .i64 := by
          cases k' <;> first | rfl | (have := hk.1.2; simp [kindNo] at this)
         subst hk3
         cases ha with
         | g ha =>
           rw [h1] at ha; cases ha
           cases hr with
           | cons x n y => exact absurd rfl (n _ _ _)
           | n hl' y =>
             refine ⟨_, _, .int .i64 n, _, rfl, hK, .u (.int _ _), fun w hw => run_ld1 hl ?_⟩
             rw [hcell_w (hw L.b _ (.inr ⟨b, _, hbs b (by simp [refsV]), h2, List.mem_singleton_self _⟩))]
             simp only [List.getElem?_toArray]
             rw [List.getElem?_append_right (by omega), hp, show o + k.toNat - o = k.toNat by omega]
             exact get_app (by simp [hn])
       · exact hs.elim
   · exact hs.elim
 | e b sz k o =>
   simp only [load1] at hs
   split at hs
   · rename_i E sz' rows hm
     obtain ⟨L, ch, h1, h2, h3⟩ := M.get (b := b) (by rw [hm]; simp)
     rw [hm] at h3
     obtain ⟨hk, hK⟩ := cond_spec hs
     have := Nat.eq_of_beq_eq_true hk
     subst this
     obtain ⟨h0, r, hr, hK⟩ := elL_spec hK
     obtain ⟨u, hu, hK⟩ := dU_spec hK
     rw [ug_eq] at hu
     cases ha with
     | e ha hL hk0 hk1 =>
       rename_i p q L'
       rw [h1] at ha; cases ha
       cases h3 with
       | w own hn =>
         generalize hA : L.a = A at *
         generalize L.c = cc at own
         subst hL
         cases own with
         | nil => simp at hr
         | row bb c arr rows v g1 g2 g3 g4 g5 =>
           refine ⟨_, _, _, _, rfl, hK, .u (g5 _ _ _ _ hr hu), fun w hw => run_ld1 hl ?_⟩
           rw [hcell_w (hw _ _ (.inr ⟨b, _, hbs b (by simp [refsV]), h2, List.mem_singleton_self _⟩)), Nat.zero_add]
           exact g4 _ _ _ _ hr hu
   · rename_i E sz' n cells hm
     obtain ⟨L, ch, h1, h2, h3⟩ := M.get (b := b) (by rw [hm]; simp)
     rw [hm] at h3
     obtain ⟨hk, hs2⟩ := cond_spec hs
     have := Nat.eq_of_beq_eq_true hk
     subst this
     cases ha with
     | e ha hL hk0 hk1 =>
       rename_i p q L'
       rw [h1] at ha; cases ha
       cases h3 with
       | cw hA hN hc hlen h5 h6 =>
         rw [hA] at hL; cases hL
         split at hs2
         · rename_i v l hd
           obtain ⟨hk, hK⟩ := cond_spec hs2
           obtain ⟨pp, s, rfl, hp, hr⟩ := dropC_S hd hc
           cases hr with
           | cons x n y =>
             refine ⟨_, _, _, _, rfl, hK, x, fun w hw => run_ld1 hl ?_⟩
             rw [hcell_w (hw _ _ (.inr ⟨b, _, hbs b (by simp [refsV]), h2, List.mem_singleton_self _⟩)), Nat.zero_add, ← hp]
             simp
           | n hl' y => simp [shOk] at hk
         · exact hs2.elim
   · exact hs.elim
 | q c o =>
   simp only [load1] at hs
   obtain ⟨u, hu, hK⟩ := dU_spec hs
   rw [ug_eq] at hu
   cases ha with
   | q hr ho =>
     rename_i p o1 o2
     subst ho
     obtain ⟨arr, S', f, v, g1, g2, g3⟩ := hr.pp_iff
     refine ⟨_, _, _, _, rfl, hK, .u (g3 _ _ hu), fun w hw => run_ld1 hl ?_⟩
     rw [hcell_w (hw _ _ (.inl g1))]
     exact g2 _ _ hu
 | u x =>
   cases x with
   | p p =>
     simp only [load1] at hs
     obtain ⟨c, rfl, hs2⟩ := oP_spec hs
     obtain ⟨u, hu, hK⟩ := dU_spec hs2
     rw [ug_eq] at hu
     cases ha with
     | u hr =>
       cases hr with
       | pp b o arr S' f us v g1 g2 g3 =>
         refine ⟨_, _, _, _, rfl, hK, .u (g3 _ _ hu), fun w hw => run_ld1 hl ?_⟩
         rw [hcell_w (hw _ _ (.inl g1))]
         exact g2 _ _ hu
   | _ => simp only [load1] at hs
 | _ => simp only [load1] at hs
theorem RdL.mk {us : List U} (f : Nat → Value) (hf : ∀ j u, us[j]? = some u → Rd D (f j) u) : RdL D ((List.range us.length).map f) us := RdL.of_get f hf
theorem rmap {f : Nat → Value} {n j : Nat} {v : Value} (hj : ((List.range n).map f)[j]? = some v) : j < n ∧ v = f j := by
 rw [List.getElem?_map] at hj
 obtain ⟨i, hi, rfl⟩ := Option.map_eq_some_iff.1 hj
 obtain ⟨h1, h2⟩ := List.getElem?_eq_some_iff.1 hi
 simp at h1 h2
 subst h2
 exact ⟨h1, rfl⟩
theorem loadN_S {S : TypeId} {zs : List (Value × Nat)} (hl : layS P S = some (.many zs)) {a : V} {va : Value} {KS : V → Prop} (hs : loadN zs a m KS) (M : SAt D ρ m chs C h) (ha : Rp D ρ va a) {bs : List Nat} (hbs : ∀ b, b ∈ refsV a → inL bs b = true) :
 ∃ bb oo v x, va = .pointer (some ⟨bb, oo, none⟩) ∧ KS x ∧ Rp D ρ v x ∧ ∀ w, Hs D chs bs w → (loadVar S ⟨bb, oo, none⟩).run P w = .ok v w := by
 obtain ⟨cs, hl, hn⟩ := layS_many hl
 -- a row of cells that is frozen, or one's own
 have fin : ∀ {us : List U} {bb oo : Nat} (f : Nat → Value), us.length = zs.length → (∀ j u, us[j]? = some u → Rd D (f j) u) → (∀ j u, us[j]? = some u → ∀ w, Hs D chs bs w → hcell w.heap ⟨bb, oo + j, none⟩ = some (f j)) → KS (.a (us.map .u)) →
  ∃ v x, KS x ∧ Rp D ρ v x ∧ ∀ w, Hs D chs bs w → (loadVar S ⟨bb, oo, none⟩).run P w = .ok v w := by
  intro us bb oo f h1 h2 h3 hK
  refine ⟨_, _, hK, .a (.ofU (RdL.mk f h2)), fun w hw => run_ldN hl (by simp [h1, hn]) fun j v hv => ?_⟩
  obtain ⟨hj, rfl⟩ := rmap hv
  exact h3 j us[j] (List.getElem?_eq_getElem hj) w hw
 cases a with
 | r b o =>
   simp only [loadN] at hs
   split at hs
   · rename_i cells hm
     obtain ⟨L, ch, h1, h2, h3⟩ := M.get (b := b) (by rw [hm]; simp)
     rw [hm] at h3
     cases h3 with
     | c hc =>
       rename_i arr S'
       split at hs
       · rename_i l hd
         split at hs
         · rename_i vs hv
           obtain ⟨hk, hK⟩ := cond_spec hs
           obtain ⟨p, s, rfl, hp, hr⟩ := dropC_S hd hc
           obtain ⟨p2, s2, rfl, hp2, hr⟩ := prefC_S hv hr
           cases ha with
           | r ha =>
             rw [h1] at ha; cases ha
             refine ⟨_, _, _, _, rfl, hK, .a hr, fun w hw => run_ldN hl (by rw [hp2, hn]) fun j v hv => ?_⟩
             rw [hcell_w (hw L.b _ (.inr ⟨b, _, hbs b (by simp [refsV]), h2, List.mem_singleton_self _⟩))]
             simp only [List.getElem?_toArray]
             rw [List.getElem?_append_right (by omega), show o + j - p.length = j by omega]
             exact get_app hv
         · exact hs.elim
       · exact hs.elim
   · exact hs.elim
 | e b sz k o =>
   simp only [loadN] at hs
   split at hs
   · rename_i E sz' rows hm
     obtain ⟨L, ch, h1, h2, h3⟩ := M.get (b := b) (by rw [hm]; simp)
     rw [hm] at h3
     obtain ⟨hk, hK⟩ := cond_spec hs
     have := Nat.eq_of_beq_eq_true hk
     subst this
     obtain ⟨h0, r, hr, hK⟩ := elL_spec hK
     obtain ⟨us, hu1, hu2, hK⟩ := dUs_spec hK
     cases ha with
     | e ha hL hk0 hk1 =>
       rename_i p q L'
       rw [h1] at ha; cases ha
       cases h3 with
       | w own hn =>
         generalize hA : L.a = A at *
         generalize L.c = cc at own
         subst hL
         cases own with
         | nil => simp at hr
         | row bb c arr rows v g1 g2 g3 g4 g5 =>
           obtain ⟨v', x, a1, a2, a3⟩ := fin (bb := p) (oo := 0 + k.toNat * sz + o) (fun j => v k.toNat (o + j)) hu1 (fun j u hj => g5 _ _ _ _ hr (hu2 j u hj)) (fun j u hj w hw => by
            rw [hcell_w (hw _ _ (.inr ⟨b, _, hbs b (by simp [refsV]), h2, List.mem_singleton_self _⟩)), Nat.zero_add, Nat.add_assoc]
            exact g4 _ _ _ _ hr (hu2 j u hj)) hK
           exact ⟨_, _, v', x, rfl, a1, a2, a3⟩
   · rename_i E sz' n' cells hm
     obtain ⟨L, ch, h1, h2, h3⟩ := M.get (b := b) (by rw [hm]; simp)
     rw [hm] at h3
     obtain ⟨hk, hs2⟩ := cond_spec hs
     have := Nat.eq_of_beq_eq_true hk
     subst this
     cases ha with
     | e ha hL hk0 hk1 =>
       rename_i p q L'
       rw [h1] at ha; cases ha
       cases h3 with
       | cw hA hN hc hlen h5 h6 =>
         rw [hA] at hL; cases hL
         split at hs2
         · rename_i l hd
           split at hs2
           · rename_i vs hv
             obtain ⟨hk, hK⟩ := cond_spec hs2
             obtain ⟨p, s, rfl, hp, hr⟩ := dropC_S hd hc
             obtain ⟨p2, s2, rfl, hp2, hr⟩ := prefC_S hv hr
             refine ⟨_, _, _, _, rfl, hK, .a hr, fun w hw => run_ldN hl (by rw [hp2, hn]) fun j v hv => ?_⟩
             rw [hcell_w (hw _ _ (.inr ⟨b, _, hbs b (by simp [refsV]), h2, List.mem_singleton_self _⟩)), Nat.zero_add, ← hp]
             simp only [List.getElem?_toArray, List.append_assoc]
             rw [List.getElem?_append_right (by omega), show p.length + j - p.length = j by omega]
             exact get_app hv
           · exact hs2.elim
         · exact hs2.elim
   · exact hs.elim
 | q c o =>
   simp only [loadN] at hs
   obtain ⟨us, hu1, hu2, hK⟩ := dUs_spec hs
   cases ha with
   | q hr ho =>
     rename_i p o1 o2
     subst ho
     obtain ⟨arr, S', f, v, g1, g2, g3⟩ := hr.pp_iff
     obtain ⟨v', x, a1, a2, a3⟩ := fin (bb := p) (oo := o2 + o) (fun j => v (o + j)) hu1 (fun j u hj => g3 _ _ (hu2 j u hj)) (fun j u hj w hw => by
      rw [hcell_w (hw _ _ (.inl g1)), Nat.add_assoc]
      exact g2 _ _ (hu2 j u hj)) hK
     exact ⟨_, _, v', x, rfl, a1, a2, a3⟩
 | u x =>
   cases x with
   | p p =>
     simp only [loadN] at hs
     obtain ⟨c, rfl, hs2⟩ := oP_spec hs
     obtain ⟨us, hu1, hu2, hK⟩ := dUs_spec hs2
     cases ha with
     | u hr =>
       cases hr with
       | pp b o arr S' f us' v g1 g2 g3 =>
         obtain ⟨v', x, a1, a2, a3⟩ := fin (bb := b) (oo := o) (fun j => v (0 + j)) hu1 (fun j u hj => g3 _ _ (hu2 j u hj)) (fun j u hj w hw => by
          rw [hcell_w (hw _ _ (.inl g1))]
          have := g2 _ _ (hu2 j u hj); rw [Nat.zero_add] at this ⊢; exact this) hK
         exact ⟨_, _, v', x, rfl, a1, a2, a3⟩
   | _ => simp only [loadN] at hs
 | _ => simp only [loadN] at hs
theorem sLoad_S {S : TypeId} {a : V} {va : Value} {KS : V → Prop} (hs : sLoad P S a m KS) (M : SAt D ρ m chs C h) (ha : Rp D ρ va a) {bs : List Nat} (hbs : ∀ b, b ∈ refsV a → inL bs b = true) :
 ∃ bb oo v x, va = .pointer (some ⟨bb, oo, none⟩) ∧ KS x ∧ Rp D ρ v x ∧ ∀ w, Hs D chs bs w → (loadVar S ⟨bb, oo, none⟩).run P w = .ok v w := by
 unfold sLoad at hs
 split at hs
 · rename_i z hl; exact load1_S hl hs M ha hbs
 · rename_i zs hl; exact loadN_S hl hs M ha hbs
 · exact hs.elim
end Go.Proofs.YtaogfopaalancaaDoor
/- The symbolic engine, part e: quiet operations. -/
set_option linter.unusedVariables false
namespace Go.Proofs.YtaogfopaalancaaDoor
open Go
variable {P : Program} {D D' : Fz} {ρ : List Loc} {m : Mem} {chs C : List Chunk} {h : Heap} {T : List Value} {t : List V}
theorem Rp.r_inv {v : Value} {b o : Nat} (hr : Rp D ρ v (.r b o)) : ∃ L, ρ[b]? = some L ∧ v = .pointer (some ⟨L.b, o, none⟩) := by cases hr; exact ⟨_, by assumption, rfl⟩
theorem Rp.e_inv {v : Value} {b sz o : Nat} {k : Int} (hr : Rp D ρ v (.e b sz k o)) : ∃ L p q, ρ[b]? = some L ∧ L.a = some ⟨p, q, none⟩ ∧ 0 ≤ k ∧ k < L.n ∧ v = .pointer (some ⟨p, q + k.toNat * sz + o, none⟩) := by
 cases hr; exact ⟨_, _, _, by assumption, by assumption, by assumption, by assumption, rfl⟩
theorem Rp.g_inv {v : Value} {b o w : Nat} {k : Int} (hr : Rp D ρ v (.g b o w k)) : ∃ L, ρ[b]? = some L ∧ 0 ≤ k ∧ k < w ∧ v = .pointer (some ⟨L.b, o + k.toNat, none⟩) := by
 cases hr; exact ⟨_, by assumption, by assumption, by assumption, rfl⟩
theorem Rp.q_inv {v : Value} {c : List U} {n : Nat} (hr : Rp D ρ v (.q c n)) : ∃ p o, Rd D (.pointer (some ⟨p, o, none⟩)) (.p (some c)) ∧ v = .pointer (some ⟨p, o + n, none⟩) := by
 cases hr with | q h1 h2 => subst h2; exact ⟨_, _, h1, rfl⟩
theorem Rp.p_inv {v : Value} {c : List U} (hr : Rp D ρ v (.u (.p (some c)))) : ∃ p o, Rd D (.pointer (some ⟨p, o, none⟩)) (.p (some c)) ∧ v = .pointer (some ⟨p, o, none⟩) := by
 cases hr with | u hr => cases h : hr with | pp => exact ⟨_, _, hr, rfl⟩
theorem Rp.w_inv {v : Value} {b : Nat} (hr : Rp D ρ v (.w b)) : ∃ L, ρ[b]? = some L ∧ v = .slice L.a L.n L.c := by cases hr; exact ⟨_, by assumption, rfl⟩
theorem Rp.v_inv {v : Value} {b sz l n : Nat} {c : Bool} (hr : Rp D ρ v (.v b sz l n c)) : ∃ L a cap, ρ[b]? = some L ∧ l + n ≤ L.n ∧ (l = 0 → a = L.a) ∧ (0 < n → ∃ p q, L.a = some ⟨p, q, none⟩ ∧ a = some ⟨p, q + l * sz, none⟩) ∧ n ≤ cap ∧ (c = true → cap = n) ∧ (c = false → l = 0 → cap = L.c) ∧ v = .slice a n cap := by
 cases hr; exact ⟨_, _, _, by assumption, by assumption, by assumption, by assumption, by assumption, by assumption, by assumption, rfl⟩
theorem Rp.sl_inv {v : Value} {b o n : Nat} (hr : Rp D ρ v (.sl b o n)) : ∃ L a cap, ρ[b]? = some L ∧ (0 < n → a = some ⟨L.b, o, none⟩) ∧ n ≤ cap ∧ v = .slice a n cap := by
 cases hr; exact ⟨_, _, _, by assumption, by assumption, by assumption, rfl⟩
theorem Rp.l_inv {v : Value} {sz : Nat} {rows : List (List U)} (hr : Rp D ρ v (.u (.l sz rows))) : ∃ a c, v = .slice a rows.length c ∧ Rd D (.slice a rows.length c) (.l sz rows) := by
 cases hr with | u hr => obtain ⟨a, c, rfl, -⟩ := hr.shape; exact ⟨a, c, rfl, hr⟩
theorem Rp.c_inv {v : Value} {sz : Nat} {rows : List (List U)} (hr : Rp D ρ v (.c sz rows)) : ∃ a, v = .slice a rows.length rows.length ∧ Rd D (.slice a rows.length rows.length) (.l sz rows) := by
 cases hr with | c hr => have := hr.len.1; subst this; exact ⟨_, rfl, hr⟩
theorem Rp.f_inv {v : Value} {g : FuncId} {a c : List V} (hr : Rp D ρ v (.f g a c)) : ∃ xs ys, v = .func (.func g) xs.toArray ys.toArray ∧ RpL D ρ xs a ∧ RpL D ρ ys c := by cases hr; exact ⟨_, _, rfl, by assumption, by assumption⟩
theorem Rp.a_inv {v : Value} {l : List V} (hr : Rp D ρ v (.a l)) : ∃ vs, v = .agg vs.toArray ∧ RpC D ρ vs l := by cases hr; exact ⟨_, rfl, by assumption⟩
theorem Rp.t_inv {v : Value} {l : List V} (hr : Rp D ρ v (.t l)) : ∃ vs, v = .tuple vs.toArray ∧ RpL D ρ vs l := by cases hr; exact ⟨_, rfl, by assumption⟩
theorem Rp.ptr {v : Value} {x : V} (hr : Rp D ρ v x) (hx : isPtr x = true) : ∃ a, v = .pointer (some a) := by
 unfold isPtr at hx
 split at hx <;> first | (cases hr; exact ⟨_, rfl⟩) | cases hx
theorem yp {o : Oper} {v : Value} (hh : pureK P T o (fun u => u = v)) (w : World) : (execOp (ev T) o).run P w = .ok (.value v) w := by
 obtain ⟨u, rfl, hy⟩ := pure_sound hh
 exact hy w
theorem leK_mono {c : Bool} {l r : Int} {A B : Prop} (hh : leK c l r A) (f : A → B) : leK c l r B := by
 cases c
 · exact ⟨hh.1, f hh.2⟩
 · exact f hh
theorem u_int {v : Value} {k : IntKind} {n : Int} (hr : Rp D ρ v (.u (.i k n))) : v = .int k n := by cases hr with | u a => exact Rd.int_iff.1 a
theorem u_bool {v : Value} {c : Bool} (hr : Rp D ρ v (.u (.b c))) : v = .bool c := by cases hr with | u a => exact Rd.bool_iff.1 a
theorem u_str {v : Value} {s : ByteArray} (hr : Rp D ρ v (.u (.s s))) : v = .string s := by cases hr with | u a => exact Rd.str_iff.1 a
theorem u_nil {v : Value} (hr : Rp D ρ v (.u (.p none))) : v = .pointer none := by cases hr with | u a => cases a; rfl
theorem bnd_S (F : RpL D ρ T t) {x : Option Operand} {d i : Int} (hb : bndS t x d = some i) : bnd T x d = some i := by
 unfold bndS at hb
 unfold bnd
 split at hb
 · exact hb
 · rename_i x
   split at hb
   · rename_i k i' he
     have := ev_S F x
     rw [he] at this
     simp only [u_int this]; exact hb
   · cases hb
theorem bin_S {op : BinOp} {S : TypeId} {x y : V} {a b : Value} {KS : V → Prop} (hs : binS P op S x y KS) (ha : Rp D ρ a x) (hb : Rp D ρ b y) : binK P op S a b fun v => KS (absV v) := by
 unfold binS at hs
 split at hs
 · rename_i a' b' h1 h2
   rw [conc_S h1 ha, conc_S h2 hb]; exact hs
 · split at hs
   · have := u_nil hb; subst this
     split at hs
     · rename_i e hu
       split at hs
       · rename_i p
         cases ha with
         | u hr =>
           cases hr with
           | pn => simp only [binK, hu]; exact hs
           | pp => simp only [binK, hu]; exact hs
       · obtain ⟨h1, h2⟩ := cond_spec hs
         unfold isPtr at h1
         split at h1 <;> first | (cases ha <;> (simp only [binK, hu]; exact h2)) | cases h1
     · exact hs.elim
   · cases hb with
     | nm =>
       split at hs
       · rename_i k e hu
         split at hs
         · cases ha with | m hr => simp only [binK, hu]; exact hs
         · cases ha with | nm => simp only [binK, hu]; exact hs
         · exact hs.elim
       · exact hs.elim
   · exact hs.elim
theorem Own.some_of {E sz c : Nat} {a : Option Addr} {rows : List (List U)} {ch : Chunk} (x : Own D E sz a c rows ch) (h : rows ≠ []) : ∃ b, a = some ⟨b, 0, none⟩ := by
 cases x with
 | nil => exact absurd rfl h
 | row b => exact ⟨b, rfl⟩
theorem nilOf_S {x : V} {v : Value} {r : Bool × Bool} (hs : nilOf m x = some r) (M : SAt D ρ m chs C h) (hv : Rp D ρ v x) : ∃ a n c, v = .slice a n c ∧ (a.isNone = true → r.1 = true) ∧ (a.isNone = false → r.2 = true) := by
 unfold nilOf at hs
 split at hs
 · cases hs; cases hv; exact ⟨_, _, _, rfl, fun _ => rfl, by simp⟩
 · rename_i sz rows
   cases hs
   obtain ⟨a, c, rfl, hr⟩ := hv.l_inv
   refine ⟨_, _, _, rfl, fun ha => ?_, fun _ => rfl⟩
   cases rows with
   | nil => rfl
   | cons r rows => obtain ⟨b, o, e, -⟩ := hr.at (i := 0) (r := r) rfl; rw [e] at ha; simp at ha
 · rename_i sz rows
   cases hs
   obtain ⟨a, rfl, hr⟩ := hv.c_inv
   refine ⟨_, _, _, rfl, fun ha => ?_, fun _ => rfl⟩
   cases rows with
   | nil => rfl
   | cons r rows => obtain ⟨b, o, e, -⟩ := hr.at (i := 0) (r := r) rfl; rw [e] at ha; simp at ha
 · rename_i b
   split at hs
   · rename_i E sz rows hm
     cases hs
     obtain ⟨L, hL, rfl⟩ := hv.w_inv
     obtain ⟨L', ch, g1, g2, g3⟩ := M.get (b := b) (by rw [hm]; simp)
     rw [hL] at g1; cases g1
     rw [hm] at g3
     cases g3 with
     | w own hn =>
       refine ⟨_, _, _, rfl, fun ha => ?_, fun _ => rfl⟩
       cases rows with
       | nil => rfl
       | cons r rows => obtain ⟨b', e⟩ := own.some_of (by simp); rw [e] at ha; simp at ha
   · cases hs
 · rename_i b sz l n c
   cases hs
   obtain ⟨L, a, cap, h1, h2, h3, h4, h5, h6, h7, rfl⟩ := hv.v_inv
   refine ⟨_, _, _, rfl, fun ha => ?_, fun _ => rfl⟩
   cases n with
   | zero => rfl
   | succ n => obtain ⟨p, q, -, e⟩ := h4 (by omega); rw [e] at ha; simp at ha
 · rename_i b o n
   cases hs
   obtain ⟨L, a, cap, h1, h2, h3, rfl⟩ := hv.sl_inv
   refine ⟨_, _, _, rfl, fun ha => ?_, fun _ => rfl⟩
   cases n with
   | zero => rfl
   | succ n => rw [h2 (by omega)] at ha; simp at ha
 · cases hs
theorem nilSl_S {op : BinOp} {S : TypeId} {x y : V} {a b : Value} {r : Bool × Bool} {K : Value → Prop} (hs : nilSl P m S x y = some r) (M : SAt D ρ m chs C h) (ha : Rp D ρ a x) (hb : Rp D ρ b y) (hh : nilR op r K) : binK P op S a b K := by
 unfold nilSl at hs
 split at hs
 · split at hs
   · rename_i e hu
     cases hb
     obtain ⟨a', n, c, rfl, h1, h2⟩ := nilOf_S hs M ha
     simp only [binK, hu]
     obtain ⟨r1, r2⟩ := r
     simp only at h1 h2
     unfold nilR at hh
     cases hn : a'.isNone with
     | true =>
       have := h1 hn
       subst this
       cases r2 with
       | true => exact hh.1
       | false => exact hh
     | false =>
       have := h2 hn
       subst this
       cases r1 with
       | true => exact hh.2
       | false => exact hh
   · cases hs
 · cases hs
theorem eqI_iff : ∀ (a b : List Int), eqI a b = decide (a = b)
 | [], [] => by simp [eqI]
 | [], _ :: _ => by simp [eqI]
 | _ :: _, [] => by simp [eqI]
 | a :: l, b :: r => by
   simp only [eqI, eqI_iff l r]
   by_cases h1 : a = b <;> by_cases h2 : l = r <;> simp [h1, h2]
theorem intsA_S : ∀ {l : List V} {r : List Int} {vs : List Value}, intsA l = some r → RpC D ρ vs l → vs = r.map (Value.int .i64) ∧ r.length = wds l
 | [], r, vs, h, hr => by cases h; cases hr; exact ⟨rfl, rfl⟩
 | x :: l, r, vs, h, hr => by
   unfold intsA at h
   split at h
   · rename_i e; cases e
   · rename_i n l' e
     cases e
     split at h
     · rename_i r' h'
       cases h
       cases hr with
       | cons a _ b =>
         obtain ⟨h1, h2⟩ := intsA_S h' b
         exact ⟨by rw [u_int a, h1]; rfl, by simp [wds, wd, h2]; omega⟩
     · cases h
   · rename_i w xs l' e
     cases e
     split at h
     · rename_i r' h'
       cases h
       cases hr with
       | cons _ hn _ => exact absurd rfl (hn _ _ _)
       | n hl b =>
         obtain ⟨h1, h2⟩ := intsA_S h' b
         exact ⟨by rw [h1]; simp, by simp [wds, wd, h2, hl]⟩
     · cases h
   · cases h
theorem arrN_run {T : TypeId} {n : Nat} (hk : arrN P T = some n) {a b : List Int} (h1 : a.length = n) (h2 : b.length = n) {w : World} : (Op.equal T (mkV (.a a)) (mkV (.a b))).run P w = .ok (decide (a = b)) w := by
 unfold arrN at hk
 split at hk
 · split at hk
   · rename_i h; cases hk; exact run_eqKey h h1 h2
   · cases hk
 · rename_i fs hu
   cases hc : (flat P fs.toList 0 || isI P T) with
   | true => rw [hc] at hk; cases hk
   | false =>
     rw [hc] at hk
     simp only [Bool.or_eq_false_iff] at hc
     exact run_eqNum hk hc.2 h1 h2
 · cases hk
theorem arrE_S {op : BinOp} {S : TypeId} {x y : V} {a b : Value} {c : Bool} {K : Value → Prop} {ox oy : Operand} (hs : arrE P S x y = some c) (ha : Rp D ρ a x) (hb : Rp D ρ b y) (h : nilEq op c K) :
 ∃ v, K v ∧ ∀ w, (do eqGuard op S ox oy a b; binOp op S a b : Sem Value).run P w = .ok v w := by
 unfold arrE at hs
 split at hs
 · rename_i n xs ys hk
   split at hs
   · rename_i a' b' h1 h2
     cases hc : (Nat.beq (wds xs) n && Nat.beq (wds ys) n && !P.eqGuardType P.depth S) with
     | false => rw [hc] at hs; cases hs
     | true =>
       rw [hc] at hs
       cases hs
       simp only [Bool.and_eq_true, Bool.not_eq_true'] at hc
       obtain ⟨vs, rfl, hx⟩ := ha.a_inv
       obtain ⟨us, rfl, hy⟩ := hb.a_inv
       obtain ⟨rfl, l1⟩ := intsA_S h1 hx
       obtain ⟨rfl, l2⟩ := intsA_S h2 hy
       have e1 : a'.length = n := by rw [l1]; exact Nat.eq_of_beq_eq_true hc.1.1
       have e2 : b'.length = n := by rw [l2]; exact Nat.eq_of_beq_eq_true hc.1.2
       have hq := hc.2
       have hg : ∀ (u v : Array Value) (w : World), (eqGuard op S ox oy (.agg u) (.agg v)).run P w = .ok () w := by
        intro u v w
        unfold eqGuard
        cases op <;> first | rfl | (simp [hq]; done) | (simp [hq]; rfl)
       obtain ⟨v, hv, hr⟩ := nil_run (P := P) (T := S) (x := mkV (.a a')) (y := mkV (.a b')) (z := eqI a' b') (fun w => by rw [eqI_iff]; exact arrN_run hk e1 e2) (.inr (.inr (.inr (.inr ⟨_, rfl⟩)))) (.inr (.inr (.inr (.inr ⟨_, rfl⟩)))) h
       refine ⟨v, hv, fun w => ?_⟩
       simp only [Sem.run_bind, hg, Result.andThen_ok]
       exact hr w
   · cases hs
 · cases hs
theorem args_S (F : RpL D ρ T t) : ∀ {l : List Operand} {vs : List Value}, argsI t l = some vs → l.map (ev T) = vs
 | [], vs, hh => by cases hh; rfl
 | x :: l, vs, hh => by
   simp only [argsI] at hh
   split at hh
   · rename_i v vs' h1 h2
     cases hh
     rw [List.map_cons, args_S F h2, conc1_S h1 (ev_S F x)]
   · cases hh
theorem chunk_get : ∀ {n sz : Nat} {l : List U} {i : Nat} {r : List U}, (chunk n sz l)[i]? = some r → i < n ∧ r = (l.drop (i * sz)).take sz
 | 0, sz, l, i, r, hh => by simp [chunk] at hh
 | n + 1, sz, l, 0, r, hh => by simp [chunk] at hh; exact ⟨by omega, by simp [hh]⟩
 | n + 1, sz, l, i + 1, r, hh => by
   simp only [chunk, List.getElem?_cons_succ] at hh
   obtain ⟨h1, h2⟩ := chunk_get hh
   refine ⟨by omega, ?_⟩
   rw [h2, List.drop_drop, Nat.succ_mul, Nat.add_comm sz]
theorem RdL.split {vs : List Value} {us : List U} (hr : RdL D vs us) (n : Nat) : RdL D (vs.take n) (us.take n) ∧ RdL D (vs.drop n) (us.drop n) := by
 induction n generalizing vs us with
 | zero => simp only [List.take_zero, List.drop_zero]; exact ⟨.nil, hr⟩
 | succ n ih =>
   cases hr with
   | nil => simp only [List.take_nil, List.drop_nil]; exact ⟨.nil, .nil⟩
   | cons a b => obtain ⟨h1, h2⟩ := ih b; exact ⟨.cons a h1, h2⟩
theorem zeros_info {S : TypeId} {zs : List (Value × Nat)} (hz : zerosOf P S = some zs) : ∃ i, P.info? S = some i ∧ i.size = zs.length := by
 unfold zerosOf at hz
 split at hz
 · rename_i z hl; cases hz; exact (layOf_one (layS_one hl)).2.2
 · rename_i zs' hl; cases hz; obtain ⟨cs, h1, h2⟩ := layS_many hl; rw [← h2]; exact (layOf_many h1).2
 · cases hz
theorem part_S {S : TypeId} {zs : List (Value × Nat)} (hz : zerosOf P S = some zs) {vs : List Value} {us r : List U} (hr : RdL D vs us) {i : Nat} (hi : (i + 1) * zs.length ≤ us.length) (hd : r = (us.drop (i * zs.length)).take zs.length) {r' : List U}
 (hl : r'.length = zs.length) (hg : ∀ j u, r'[j]? = some u → r[0 + j]? = some u) : ∃ v, Rp D ρ v (oneA P S (r'.map .u)) ∧ ∀ w, (part S vs.toArray (i * zs.length)).run P w = .ok v w := by
 have hrl : r.length = zs.length := by
  rw [Nat.succ_mul] at hi
  rw [hd]; simp; omega
 have hrr : r' = r := by
  apply List.ext_getElem (by rw [hl, hrl])
  intro j h1 h2
  have := hg j r'[j] (List.getElem?_eq_getElem h1)
  rw [Nat.zero_add, List.getElem?_eq_getElem h2] at this
  exact (Option.some.inj this).symm
 subst hrr
 have hv := ((hr.split (i * zs.length)).2.split zs.length).1
 rw [← hd] at hv
 generalize hvs : (vs.drop (i * zs.length)).take zs.length = v' at hv
 unfold zerosOf at hz
 unfold oneA
 split at hz
 · rename_i z hS
   cases hz
   rw [hS]
   have hone : r'.length = 1 := hl
   obtain ⟨u, rfl⟩ := List.length_eq_one_iff.1 hone
   cases hv with
   | cons a b =>
     rename_i v vs'
     cases b
     refine ⟨v, .u a, run_pt1 (layS_one hS) ?_⟩
     have : ((vs.drop (i * [z].length)).take [z].length)[0]? = some v := by rw [hvs]; rfl
     simpa using this
 · rename_i zs' hS
   cases hz
   rw [hS]
   obtain ⟨cs, h1, h2⟩ := layS_many hS
   refine ⟨.agg v'.toArray, ?_, fun w => ?_⟩
   · cases r' <;> exact .a (.ofU hv)
   · have hsp : vs = vs.take (i * zs.length) ++ (v' ++ (vs.drop (i * zs.length)).drop zs.length) := by rw [← hvs, List.take_append_drop, List.take_append_drop]
     have hlen : (vs.take (i * zs.length)).length = i * zs.length := by
      have := hr.len
      rw [Nat.succ_mul] at hi
      simp; omega
     have := run_ptN (P := P) h1 (p := vs.take (i * zs.length)) (vs := v') (s := (vs.drop (i * zs.length)).drop zs.length) (by rw [hv.len, hl, h2]) w
     rw [hlen, ← hsp] at this
     exact this
 · cases hz
theorem cellsV_S {v : Value} {x : V} {xs : List V} (hc : cellsV x = some xs) (hr : Rp D ρ v x) : RpC D ρ v.cells.toList xs := by
 cases hr with
 | a h => cases hc; exact h
 | u h =>
   cases hc
   have : v.cells.toList = [v] := by cases h <;> rfl
   rw [this]; exact .cons (.u h) (by simp) .nil
 | t => cases hc
 | z => cases hc
 | r h => cases hc; exact .cons (.r h) (by simp) .nil
 | e h1 h2 h3 h4 => cases hc; exact .cons (.e h1 h2 h3 h4) (by simp) .nil
 | g h1 h2 h3 => cases hc; exact .cons (.g h1 h2 h3) (by simp) .nil
 | q h1 h2 n => cases hc; exact .cons (.q h1 h2 n) (by simp) .nil
 | w h => cases hc; exact .cons (.w h) (by simp) .nil
 | c h => cases hc; exact .cons (.c h) (by simp) .nil
 | m h => cases hc; exact .cons (.m h) (by simp) .nil
 | nm => cases hc; exact .cons .nm (by simp) .nil
 | nl => cases hc; exact .cons .nl (by simp) .nil
 | f h1 h2 => cases hc; exact .cons (.f h1 h2) (by simp) .nil
 | y h => cases hc; exact .cons (.y h) (by simp) .nil
 | v h1 h2 h3 h4 h5 h6 h7 => cases hc; exact .cons (.v h1 h2 h3 h4 h5 h6 h7) (by simp) .nil
 | sl h1 h2 h3 => cases hc; exact .cons (.sl h1 h2 h3) (by simp) .nil
theorem fillC_S {place : Nat → Option (Nat × Nat)} : ∀ {ps : List (Nat × V)} {pv : List (Nat × Value)} {l l' : List V} {vs : List Value}, fillC place l ps = some l' → RpC D ρ vs l → pv.map (·.1) = ps.map (·.1) → RpL D ρ (pv.map (·.2)) (ps.map (·.2)) →
 ∃ vs', fillL place vs pv = some vs' ∧ RpC D ρ vs' l'
 | [], pv, l, l', vs, hf, hr, h1, h2 => by
   cases pv with
   | nil => cases hf; exact ⟨vs, rfl, hr⟩
   | cons _ _ => simp at h1
 | (i, x) :: ps, pv, l, l', vs, hf, hr, h1, h2 => by
   cases pv with
   | nil => simp at h1
   | cons p pv =>
     obtain ⟨i', v⟩ := p
     simp only [List.map_cons, List.cons.injEq] at h1
     obtain ⟨rfl, h1⟩ := h1
     cases h2 with
     | cons hv h2 =>
       simp only [fillC] at hf
       split at hf
       · rename_i o s xs hp hc
         have hcc := cellsV_S hc hv
         cases hb : Nat.beq (wds xs) s with
         | false => rw [hb] at hf; cases hf
         | true =>
           rw [hb] at hf
           simp only [cond_true] at hf
           split at hf
           · rename_i l1 hl1
             obtain ⟨g1, g2⟩ := putC_S hcc hl1 hr
             obtain ⟨vs', g3, g4⟩ := fillC_S hf g2 h1 h2
             refine ⟨vs', ?_, g4⟩
             have e1 : Nat.beq v.cells.toList.length s = true := by rw [wds_len hcc]; exact hb
             simp only [fillL, hp, e1, Nat.ble_eq_true_of_le g1, Bool.and_self, cond_true]
             exact g3
           · cases hf
       · cases hf
theorem fixN_S : ∀ {l : List V} {ss : List Nat} {vs : List Value}, RpC D ρ vs l → RpC D ρ vs (fixN ss l)
 | [], ss, vs, hr => by cases ss <;> exact hr
 | x :: l, ss, vs, hr => by
   cases hr with
   | n hl b => cases ss <;> exact .n hl (fixN_S b)
   | cons a n b =>
     cases ss with
     | nil => cases x <;> first | exact absurd rfl (n _ _ _) | exact .cons a n b
     | cons s ss =>
       cases x <;> first
        | exact absurd rfl (n _ _ _)
        | exact .cons a n (fixN_S b)
        | (cases a; exact .cons .nl (by simp) (fixN_S b))
theorem intsOf_S : ∀ {w : Nat} {l r : List V} {xs : List Int} {vs : List Value}, intsOf w l = some (xs, r) → RpC D ρ vs l → ∃ s, vs = xs.map (.int .i64) ++ s ∧ xs.length = w ∧ RpC D ρ s r
 | 0, l, r, xs, vs, h, hr => by simp only [intsOf, Option.some.injEq, Prod.mk.injEq] at h; obtain ⟨rfl, rfl⟩ := h; exact ⟨vs, rfl, rfl, hr⟩
 | w + 1, [], r, xs, vs, h, hr => by simp [intsOf] at h
 | w + 1, x :: l, r, xs, vs, h, hr => by
   unfold intsOf at h
   split at h
   · rename_i heq; cases heq
   · rename_i w' y l' heq1 heq2
     cases heq1
     cases heq2
     split at h
     · rename_i xs' r' h2
       cases h
       cases hr with
       | cons a n b =>
         obtain ⟨s, rfl, h3, h4⟩ := intsOf_S h2 b
         exact ⟨s, by rw [u_int a]; rfl, by simp [h3], h4⟩
     · cases h
   · cases h
theorem group_S : ∀ {ws : List Nat} {l : List V} {vs : List Value}, RpC D ρ vs l → RpC D ρ vs (group ws l)
 | [], l, vs, hr => hr
 | _ :: _, [], vs, hr => hr
 | w :: ws, x :: l, vs, hr => by
   simp only [group]
   cases hb : Nat.beq w 1 with
   | true =>
     simp only [cond_true]
     cases hr with
     | cons a n b => exact .cons a n (group_S b)
     | n hl b => exact .n hl (group_S b)
   | false =>
     simp only [cond_false]
     split
     · cases hr with
       | cons a n b => exact absurd rfl (n _ _ _)
       | n hl b => exact .n hl (group_S b)
     · split
       · rename_i xs r h2
         obtain ⟨s, rfl, h3, h4⟩ := intsOf_S h2 hr
         exact .n h3 (group_S h4)
       · exact hr
theorem asD_S {v : Value} {x : V} (hv : Rp D ρ v x) : Rp D ρ v (asD x) := by
 cases x <;> first | exact hv | (cases hv; exact .u (.nil _ _ _))
theorem asD_n {x : V} (h : ∀ k w l, x ≠ .n k w l) : ∀ k w l, asD x ≠ .n k w l := by
 intro k w l
 cases x <;> first | exact h k w l | simp [asD]
theorem datL_S : ∀ {l : List V} {vs : List Value}, RpC D ρ vs l → RpC D ρ vs (datL l)
 | _, _, .nil => .nil
 | _, _, .cons a n b => .cons (asD_S a) (asD_n n) (datL_S b)
 | _, _, .n hl b => .n hl (datL_S b)
theorem datV_S {v : Value} {x : V} (hv : Rp D ρ v x) : Rp D ρ v (datV x) := by
 cases x <;> first | exact asD_S hv | (cases hv with | a h => exact .a (datL_S h))
theorem normC_S {S : TypeId} {l : List V} {vs : List Value} (hr : RpC D ρ vs l) : RpC D ρ vs (normC P S l) := group_S (fixN_S hr)
theorem Rd.cap {a : Option Addr} {n c sz : Nat} {rows : List (List U)} (x : Rd D (.slice a n c) (.l sz rows)) : Rd D (.slice a n n) (.l sz rows) := by
 cases x with
 | nil => exact .nil _ _ _
 | row b o c arr T f rows sz v h1 h2 h3 h4 h5 => exact .row b o _ arr T f rows sz v h1 (Nat.le_refl _) h3 h4 h5
theorem Rd.part3 {a : Option Addr} {n c sz l r : Nat} {rows : List (List U)} (x : Rd D (.slice a n c) (.l sz rows)) (hl : l ≤ r) (hr : r ≤ n) : Rd D (.slice (slA a r l sz) (subN r l) (subN r l)) (.l sz ((rows.take r).drop l)) := by
 have h1 := (x.part (l := 0) (r := r) (Nat.zero_le _) hr).cap
 have h2 := h1.part (l := l) (r := r) hl (Nat.le_refl _)
 rw [List.drop_zero, List.take_take, Nat.min_self] at h2
 exact h2
theorem mapT_spec {S : TypeId} {kt : KT} {zs : List (Value × Nat)} {E : TypeId} {zv : V} (h : mapT P S = some (kt, zs, E, zv)) :
 ∃ K i z, P.underlying S = some (.map K E) ∧ ktOf P K = some kt ∧ zerosOf P E = some zs ∧ P.info? E = some i ∧ i.zero = some z ∧ zv = normV P E (ofV z) := by
 unfold mapT at h
 split at h
 · rename_i K E' hu
   split at h
   · rename_i kt' zs' z' h1 h2 h3
     simp only [Option.some.injEq, Prod.mk.injEq] at h
     obtain ⟨rfl, rfl, rfl, rfl⟩ := h
     cases hi : P.info? E' with
     | none => rw [hi] at h3; cases h3
     | some i => rw [hi] at h3; exact ⟨K, i, z', hu, h1, h2, rfl, h3, rfl⟩
   · cases h
 · cases h
theorem mkIs_S : ∀ {l : List V} {r : List Int} {vs : List Value}, mkIs l = some r → RpC D ρ vs l → vs = r.map (Value.int .i64)
 | [], r, vs, h, hr => by cases h; cases hr; rfl
 | x :: l, r, vs, h, hr => by
   unfold mkIs at h
   split at h
   · rename_i e
     cases e
   · rename_i n l' e
     cases e
     split at h
     · rename_i r' h'
       cases h
       cases hr with
       | cons a _ b => rw [u_int a, mkIs_S h' b]; rfl
     · cases h
   · cases h
theorem mkOf_S {x : V} {k : MK} {v : Value} (h : mkOf x = some k) (hr : Rp D ρ v x) : v = mkV k := by
 unfold mkOf at h
 split at h
 · cases h; exact u_int hr
 · cases h; exact u_str hr
 · split at h
   · rename_i l r hl
     cases h
     obtain ⟨vs, rfl, hc⟩ := hr.a_inv
     rw [mkIs_S hl hc]; rfl
   · cases h
 · cases h
theorem ktEq_iff {a b : KT} (h : ktEq a b = true) : a = b := by
 cases a <;> cases b <;> simp [ktEq] at h
 · rfl
 · rfl
 · rw [h]
theorem MRel.get {ag : Bool} {mv : MV} {rows : List (MK × List U)} (hr : MRel D ag mv rows) (k : MK) :
 (rGet rows k = none ∧ mGet mv k = none) ∨ ∃ us v vs, rGet rows k = some us ∧ mGet mv k = some v ∧ RdL D vs us ∧ cond ag (v = .agg vs.toArray) (vs = [v]) ∧ ∃ p ∈ rows, p.2 = us := by
 induction hr with
 | nil => exact .inl ⟨rfl, rfl⟩
 | cons a b _ ih =>
   rename_i k' v us vs m rows _
   simp only [rGet, mGet]
   by_cases hk : k' = k
   · simp only [hk, if_true]
     exact .inr ⟨us, v, vs, rfl, rfl, a, b, _, List.mem_cons_self, rfl⟩
   · simp only [hk, if_false]
     rcases ih with h | ⟨us', v', vs', h1, h2, h3, h4, p, h5, h6⟩
     · exact .inl h
     · exact .inr ⟨us', v', vs', h1, h2, h3, h4, p, List.mem_cons_of_mem _ h5, h6⟩
theorem MRel.len {ag : Bool} {mv : MV} {rows : List (MK × List U)} (hr : MRel D ag mv rows) : mv.length = rows.length := by
 induction hr with
 | nil => rfl
 | cons a b _ ih => simp [ih]
theorem oneA_S {S : TypeId} {zs : List (Value × Nat)} (hz : zerosOf P S = some zs) {us : List U} {v : Value} {vs : List Value} (hl : us.length = zs.length) (hr : RdL D vs us) (hv : cond (isAg P S) (v = .agg vs.toArray) (vs = [v])) : Rp D ρ v (oneA P S (us.map .u)) := by
 unfold zerosOf at hz
 unfold isAg at hv
 unfold oneA
 split at hz
 · rename_i z hS
   cases hz
   rw [hS] at hv ⊢
   simp only [cond_false] at hv
   subst hv
   cases hr with
   | cons a b => cases b; exact .u a
 · rename_i zs' hS
   cases hz
   rw [hS] at hv ⊢
   simp only [cond_true] at hv
   subst hv
   cases us <;> exact .a (.ofU hr)
 · cases hz
theorem look_S {S : TypeId} {x k : V} {vx vk : Value} {ok : Bool} {KS : V → Prop} (hs : lookS P S x k ok m KS) (M : SAt D ρ m chs C h) (hx : Rp D ρ vx x) (hk : Rp D ρ vk k) {bs : List Nat} (hbs : ∀ b, b ∈ refsV x → inL bs b = true) :
 ∃ v y, KS y ∧ Rp D ρ v y ∧ ∀ w, Hs D chs bs w → (Instr.lookup S vx vk ok).run P w = .ok v w := by
 unfold lookS at hs
 split at hs
 · rename_i kt zs E zv k' ht hk'
   obtain ⟨K, i, z, hT, hkt, hz, hi, hzz, rfl⟩ := mapT_spec ht
   obtain ⟨hhas, hs⟩ := cond_spec hs
   have hvk := mkOf_S hk' hk
   subst hvk
   have hnv : Rp D ρ z (normV P E (ofV z)) := by
    have := ofV_S (D := D) (ρ := ρ) z
    unfold normV
    split
    · rename_i l e; rw [e] at this; cases this with | a h => exact .a (normC_S h)
    · rename_i s' e
      rw [e] at this
      split
      · cases this; exact .nl
      · exact this
    · exact this
   have hres : ∀ {v : Value} {y : V} (b : Bool), Rp D ρ v y → Rp D ρ (if ok then .tuple #[v, .bool b] else v) (lookR ok y b) := by
    intro v y b hr
    cases ok
    · exact hr
    · exact .t (vs := [v, .bool b]) (.cons hr (.cons (.u (.bool b)) .nil))
   clear hk hk'
   split at hs
   · rename_i b _
     split at hs
     · rename_i kt' sz ag rows hm
       obtain ⟨hc, hs2⟩ := cond_spec hs
       clear hs
       simp only [Bool.and_eq_true, beq_iff_eq] at hc
       obtain ⟨⟨hc1, hc2⟩, hc3⟩ := hc
       obtain ⟨L, ch, g1, g2, g3⟩ := M.get (b := b) (by rw [hm]; simp)
       rw [hm] at g3
       cases ktEq_iff hc1
       have hsz := Nat.eq_of_beq_eq_true hc2
       subst hc3
       cases hx with
       | m hL =>
         rw [g1] at hL; cases hL
         cases g3 with
         | p I R hl =>
           rename_i es clk mv
           have hrun : ∀ w, Hs D chs bs w → (Instr.lookup S (.map (some L.b)) (mkV k') ok).run P w = .ok (if ok then .tuple #[(mGet mv k').getD z, .bool (mGet mv k').isSome] else (mGet mv k').getD z) w :=
            fun w hw => run_look hT hkt hi hzz (hw _ _ (.inr ⟨b, _, hbs b (by simp [refsV]), g2, by simp⟩)) I hhas ok
           rcases R.get k' with ⟨r1, r2⟩ | ⟨us, v, vs, r1, r2, r3, r4, p, r5, r6⟩
           · rw [r1] at hs2
             rw [r2] at hrun
             exact ⟨_, _, hs2, hres false hnv, hrun⟩
           · rw [r1] at hs2
             rw [r2] at hrun
             obtain ⟨us', l1, l2, hK⟩ := dUs_spec hs2
             have hul : us.length = zs.length := by rw [← r6, hl p r5, hsz]
             have : us' = us := by
              apply List.ext_getElem (by rw [l1, hul])
              intro j h1 h2
              have := l2 j us'[j] (List.getElem?_eq_getElem h1)
              rw [Nat.zero_add, List.getElem?_eq_getElem h2] at this
              exact (Option.some.inj this).symm
             subst this
             exact ⟨_, _, hK, hres true (oneA_S hz l1 r3 r4), hrun⟩
     · exact hs.elim
   · cases hx
     exact ⟨_, _, hs, hres false hnv, fun w _ => run_look0 hT hkt hi hzz hhas ok⟩
   · exact hs.elim
 · exact hs.elim
theorem Rd.srcF {h0 : Heap} {a : Option Addr} {n c sz : Nat} {rows : List (List U)} (x : Rd D (.slice a n c) (.l sz rows)) (fz : ∀ b o, D b = some o → h0[b]? = some o) : Src D h0 sz a rows := by
 refine ⟨(x.shape).elim fun _ h => h.elim fun _ h => h.2.2, ?_⟩
 cases x with
 | nil => exact .inl rfl
 | row b o c arr T f rows sz v h1 h2 h3 h4 h5 => exact .inr ⟨b, o, v, rfl, fun i j r u hi hj => ⟨by rw [hcell_of (fz _ _ h1)]; exact h4 i j r u hi hj, h5 i j r u hi hj⟩⟩
theorem Own.src {E sz c : Nat} {a : Option Addr} {rows : List (List U)} {ch : Chunk} (x : Own D E sz a c rows ch) (hc : ∀ p ∈ ch, h[p.1]? = some p.2) : Src D h sz a rows := by
 cases x with
 | nil => exact ⟨by simp, .inl rfl⟩
 | row b c arr rows v h1 h2 h3 h4 h5 =>
   refine ⟨h3, .inr ⟨b, 0, v, rfl, fun i j r u hi hj => ⟨?_, h5 i j r u hi hj⟩⟩⟩
   rw [hcell_of (hc _ (List.mem_singleton_self _)), Nat.zero_add]
   exact h4 i j r u hi hj
theorem Src.part {s l n : Nat} {a a' : Option Addr} {rows : List (List U)} (x : Src D h s a rows) (hl : l + n ≤ rows.length) (ha : 0 < n → ∃ p q, a = some ⟨p, q, none⟩ ∧ a' = some ⟨p, q + l * s, none⟩) : Src D h s a' ((rows.drop l).take n) := by
 have key : ∀ {i : Nat} {r : List U}, ((rows.drop l).take n)[i]? = some r → rows[l + i]? = some r := fun hi => by
  rw [List.getElem?_take] at hi
  split at hi
  · rwa [List.getElem?_drop] at hi
  · cases hi
 refine ⟨fun r hr => x.1 r (List.mem_of_mem_drop (List.mem_of_mem_take hr)), ?_⟩
 cases n with
 | zero => left; simp
 | succ n =>
   obtain ⟨p, q, rfl, rfl⟩ := ha (by omega)
   rcases x.2 with e | ⟨b, o, w, e, hw⟩
   · rw [e] at hl; simp at hl
   · cases e
     refine .inr ⟨p, q + l * s, fun i j => w (l + i) j, rfl, fun i j r u hi hj => ?_⟩
     have := hw (l + i) j r u (key hi) hj
     rw [Nat.add_mul] at this
     rw [show q + l * s + i * s + j = q + (l * s + i * s) + j by omega]
     exact this
theorem srcS_W {h0 : Heap} {x : V} {v : Value} {s : Nat} {rows : List (List U)} (hs : srcS m x = some (s, rows)) (M : SAt D ρ m chs C h) (hv : Rp D ρ v x) (fz : ∀ b o, D b = some o → h0[b]? = some o) (ow : ∀ b ch p, b ∈ refsV x → chs[b]? = some ch → p ∈ ch → h0[p.1]? = some p.2) : ∃ a c, v = .slice a rows.length c ∧ Src D h0 s a rows := by
 unfold srcS at hs
 split at hs
 · cases hs; obtain ⟨a, c, rfl, hr⟩ := hv.l_inv; exact ⟨a, c, rfl, hr.srcF fz⟩
 · cases hs; obtain ⟨a, rfl, hr⟩ := hv.c_inv; exact ⟨a, _, rfl, hr.srcF fz⟩
 · rename_i b
   split at hs
   · rename_i E sz rows' hm
     cases hs
     obtain ⟨L, ch, h1, h2, h3⟩ := M.get (b := b) (by rw [hm]; simp)
     obtain ⟨L', h4, rfl⟩ := hv.w_inv
     rw [h1] at h4; cases h4
     rw [hm] at h3
     cases h3 with
     | w own hn => exact ⟨_, _, by rw [hn], own.src fun p hp => ow _ _ p (by simp [refsV]) h2 hp⟩
   · cases hs
 · rename_i b sz l n c
   split at hs
   · rename_i E sz' rows' hm
     cases hb : Nat.beq sz' sz with
     | false => rw [hb] at hs; cases hs
     | true =>
       rw [hb] at hs
       cases hs
       have := Nat.eq_of_beq_eq_true hb
       subst this
       obtain ⟨L, ch, h1, h2, h3⟩ := M.get (b := b) (by rw [hm]; simp)
       obtain ⟨L', a, cap, g1, g2, g3, g4, g5, g6, g7, rfl⟩ := hv.v_inv
       rw [h1] at g1; cases g1
       rw [hm] at h3
       cases h3 with
       | w own hn =>
         refine ⟨a, cap, ?_, (own.src fun p hp => ow _ _ p (by simp [refsV]) h2 hp).part (by omega) g4⟩
         rw [List.length_take, List.length_drop, Nat.min_eq_left (by omega)]
   · cases hs
 · cases hs
theorem srcS_S {x : V} {v : Value} {s : Nat} {rows : List (List U)} (hs : srcS m x = some (s, rows)) (M : SAt D ρ m chs C h) (hv : Rp D ρ v x) : ∃ a c, v = .slice a rows.length c ∧ Src D h s a rows :=
 srcS_W hs M hv (fun b o hb => (M.st.fz b o hb).1) fun _ _ _ _ hc hp => M.own hc hp
theorem byteR_S : ∀ {rows : List (List U)} {ns : List Int}, byteR rows = some ns → rows = ns.map fun n => [U.i .u8 n]
 | [], ns, h => by cases h; rfl
 | r :: l, ns, h => by
   unfold byteR at h
   split at h
   · rename_i heq; cases heq
   · rename_i n l' heq
     cases heq
     split at h
     · rename_i r' hr
       cases h
       rw [List.map_cons, byteR_S hr]
     · cases h
   · cases h
theorem bstr_run {w : World} {a : Option Addr} {c : Nat} {rows : List (List U)} {ns : List Int} (hrows : rows = ns.map fun n => [U.i .u8 n]) (hs : Src D w.heap 1 a rows) : (Conv.bytesToString (.slice a rows.length c)).run P w = .ok (.string (strOf ns)) w := by
 obtain ⟨-, hsrc⟩ := hs
 cases a with
 | none =>
   rcases hsrc with h0 | ⟨b, o, f, h0, -⟩
   · rw [hrows] at h0
     have : ns = [] := by cases ns with | nil => rfl | cons n l => simp at h0
     subst this; rfl
   · cases h0
 | some ad =>
   refine run_bytesToString w ad _ c ns ?_
   have hl : rows.length = (ns.map (Value.int .u8)).length := by rw [hrows]; simp
   rw [hl]
   refine run_loadCells_list w ad _ fun j v hj => ?_
   rw [List.getElem?_map] at hj
   obtain ⟨n, hn, rfl⟩ := Option.map_eq_some_iff.1 hj
   have hr : rows[j]? = some [U.i .u8 n] := by rw [hrows, List.getElem?_map, hn]; rfl
   rcases hsrc with h0 | ⟨b, o, f, h0, hc⟩
   · rw [h0] at hr; simp at hr
   · cases h0
     obtain ⟨g1, g2⟩ := hc j 0 _ _ hr rfl
     rw [Rd.int_iff.1 g2, Nat.mul_one, Nat.add_zero] at g1
     rw [add_plain]
     exact g1
theorem view_S {dst : Option Tmp} {S : TypeId} {x : Operand} {lo hi mx : Option Operand} {ty : TypeId} {pos : String} {after : Array Edge} {guard : Option (Nat × Bool)} {e : TypeId} {b sz l n : Nat} {c : Bool} {KS : V → Prop} (F : RpL D ρ T t) (hu : P.underlying S = some (.slice e)) (hs : viewS P t e lo hi mx b sz l n c KS) (hx : Rp D ρ (ev T x) (.v b sz l n c)) :
 ∃ v y, KS y ∧ Rp D ρ v y ∧ ∀ w, pureS ⟨dst, .slice S x lo hi mx, ty, pos, after, guard⟩ = true ∨ Hs D chs (srcOf t ⟨dst, .slice S x lo hi mx, ty, pos, after, guard⟩) w → (execOp (ev T) ⟨dst, .slice S x lo hi mx, ty, pos, after, guard⟩).run P w = .ok (.value v) w := by
 unfold viewS at hs
 obtain ⟨hc, hs⟩ := cond_spec hs
 simp only [Bool.and_eq_true, Bool.not_eq_true'] at hc
 have hse := Nat.eq_of_beq_eq_true hc.1
 subst hse
 have hne : lay1 P e ≠ 0 := fun h0 => by rw [h0] at hc; simp at hc
 have hnz : ∀ {A : Prop}, A → nz (lay1 P e) A := fun hA => by
  unfold nz
  rw [show Nat.beq (lay1 P e) 0 = false from hc.2]; exact hA
 obtain ⟨L, a, cap, g1, g2, g3, g4, g5, g6, g7, hv⟩ := hx.v_inv
 -- the part from lo on, of r - lo elements, with room up to k
 have part : ∀ {l' r k : Nat} {c' : Bool}, l' ≤ r → r ≤ n → r ≤ k → k ≤ cap → (c' = true → k = r) → (c' = false → l' = 0 → l = 0 → k = L.c) → Rp D ρ (.slice (slA a k l' (lay1 P e)) (subN r l') (subN k l')) (.v b (lay1 P e) (l + l') (r - l') c') := by
  intro l' r k c' h1 h2 h2k h3 h4 h5
  have e1 : ∀ a b : Nat, subN a b = a - b := fun a b => by
   unfold subN; cases b <;> rfl
  rw [e1, e1]
  have e2 : l' = 0 → slA a k l' (lay1 P e) = a := fun h0 => by subst h0; rfl
  refine .v g1 (by omega) (fun h0 => ?_) (fun h0 => ?_) (by omega) (fun h0 => by have := h4 h0; omega) (fun h0 h6 => ?_)
  · rw [e2 (by omega)]; exact g3 (by omega)
  · obtain ⟨p, q, hA, ha⟩ := g4 (by omega)
    refine ⟨p, q, hA, ?_⟩
    by_cases hl : l' = 0
    · rw [e2 hl, ha, hl, Nat.add_zero]
    · have hkl : ¬ k = l' := by omega
      unfold slA
      have hb : Nat.beq l' 0 = false := by cases l' <;> first | exact absurd rfl hl | rfl
      rw [hb]
      simp only [cond_false, if_neg hkl, ha, Option.map_some]
      rw [Nat.add_mul, Nat.add_assoc]
  · have := h5 h0 (by omega) (by omega); omega
 split at hs
 · rename_i l' r hl hr _
   obtain ⟨h0, h1, h2, hK⟩ := leK_spec (bnd_S F hl) hs
   have hrn : bnd T hi (n : Int) = some r := bnd_S F hr
   have hK' : KS (.v b (lay1 P e) (l + l'.toNat) (r.toNat - l'.toNat) c) ∧ (c = true → r = n) := by
    unfold ltK at hK
    cases c with
    | true => exact ⟨hK.2, fun _ => hK.1⟩
    | false => exact ⟨hK, by simp⟩
   refine ⟨_, _, hK'.1, part (l' := l'.toNat) (r := r.toNat) (k := cap) (by omega) (by omega) (by omega) (Nat.le_refl _) (fun h => ?_) (fun h _ h6 => g7 h h6), fun w _ => yp ?_ w⟩
   · have := g6 h; have := hK'.2 h; omega
   · simp only [pureK, hu, hv, bnd_S F hl, hrn]
     exact leK_mono hs fun hh => ⟨hh.1, by omega, hnz trivial⟩
 · rename_i mx' l' r hl hr _
   split at hs
   · rename_i k kk hm
     obtain ⟨hhi, hs3⟩ := cond_spec hs
     obtain ⟨h0, h1, h2, h3, hK⟩ := leK_spec (bnd_S F hl) hs3
     subst h3
     have hmx : bnd T (some mx') 0 = some kk := bnd_S F (by simp [bndS, hm])
     refine ⟨_, _, hK, part (l' := l'.toNat) (r := kk.toNat) (k := kk.toNat) (by omega) (by omega) (Nat.le_refl _) (by omega) (fun _ => rfl) (by simp), fun w _ => yp ?_ w⟩
     simp only [pureK, hu, hv, bnd_S F hl, bnd_S F hr, hmx, hhi, cond_true]
     exact leK_mono hs3 fun hh => ⟨hh.1, Int.le_refl _, by omega, hnz trivial⟩
   · exact hs.elim
 · exact hs.elim
theorem quiet_S {o : Oper} {KS : V → Prop} (hs : quietS P t m o KS) (M : SAt D ρ m chs C h) (F : RpL D ρ T t) :
 ∃ v x, KS x ∧ Rp D ρ v x ∧ ∀ w, pureS o = true ∨ Hs D chs (srcOf t o) w → (execOp (ev T) o).run P w = .ok (.value v) w := by
 obtain ⟨dst, op, ty, pos, after, guard⟩ := o
 cases op <;> simp only [quietS] at hs
 case move x => exact ⟨_, _, hs, ev_S F x, fun w _ => rfl⟩
 case assign x => exact ⟨_, _, hs, ev_S F x, fun w _ => rfl⟩
 case pick c a b =>
  unfold pickS at hs
  have hc := ev_S F c
  split at hs
  · rename_i c' he
    rw [he] at hc
    have hc := u_bool hc
    have ha := ev_S F a
    have hb := ev_S F b
    split at hs
    · rename_i x y h1 h2
      rw [h1] at ha; rw [h2] at hb
      refine ⟨.bool (cond c' x y), _, hs, .u (.bool _), fun w _ => ?_⟩
      simp only [execOp, hc, u_bool ha, u_bool hb]
      cases c' <;> rfl
    · cases c'
      · exact ⟨_, _, hs, hb, fun w _ => by simp [execOp, hc, asBool]⟩
      · exact ⟨_, _, hs, ha, fun w _ => by simp [execOp, hc, asBool]⟩
  · exact hs.elim
 case nilCheck x =>
  have hx := ev_S F x
  split at hs
  · rename_i p he
    rw [he] at hx
    obtain ⟨c, rfl, hK⟩ := oP_spec hs
    obtain ⟨p, o, hr, hv⟩ := hx.p_inv
    exact ⟨_, _, hK, .q (o' := o) hr rfl 0, fun w _ => by simp [execOp, hv]⟩
  · rename_i g a c he
    rw [he] at hx
    obtain ⟨xs, ys, hv, -, -⟩ := hx.f_inv
    exact ⟨_, _, hs, hx, fun w _ => by simp [execOp, hv]⟩
  · obtain ⟨h1, hK⟩ := cond_spec hs
    refine ⟨_, _, hK, hx, fun w _ => ?_⟩
    have := hx.ptr h1
    obtain ⟨a, ha⟩ := this
    simp [execOp, ha]
 case binOp op' S x y yt =>
  split at hs
  · rename_i r hr0
    obtain ⟨v, hv, hr⟩ := bin_run (x := x) (y := y) (nilSl_S hr0 M (ev_S F x) (ev_S F y) hs)
    exact ⟨v, _, hv, absV_S v, fun w _ => by
     have := hr w
     simp only [execOp]
     rw [Sem.run_bind, this]
     rfl⟩
  split at hs
  · rename_i c hc
    obtain ⟨v, hv, hr⟩ := arrE_S (ox := x) (oy := y) hc (ev_S F x) (ev_S F y) hs
    exact ⟨v, _, hv, absV_S v, fun w _ => by
     have := hr w
     simp only [execOp]
     rw [Sem.run_bind, this]
     rfl⟩
  · obtain ⟨v, hv, hr⟩ := bin_run (x := x) (y := y) (bin_S hs (ev_S F x) (ev_S F y))
    exact ⟨v, _, hv, absV_S v, fun w _ => by
     have := hr w
     simp only [execOp]
     rw [Sem.run_bind, this]
     rfl⟩
 case unOp op' S x =>
  split at hs
  · rename_i a he
    obtain ⟨v, hv, hr⟩ := XWp.sound hs
    refine ⟨v, _, hv, absV_S v, fun w _ => ?_⟩
    simp only [execOp, conc1_S he (ev_S F x)]
    rw [Sem.run_bind, hr w]; rfl
  · exact hs.elim
 case convert s d x =>
  split at hs
  · rename_i a he
    obtain ⟨v, hv, hr⟩ := XWp.sound hs
    refine ⟨v, _, hv, absV_S v, fun w _ => ?_⟩
    simp only [execOp, conc1_S he (ev_S F x)]
    rw [Sem.run_bind, hr w]; rfl
  · split at hs
    · rename_i zz hz
      unfold strR at hz
      split at hz
      · rename_i e hA hB
        have h1 : P.underlying s = some (.slice e) := by assumption
        have h2 : P.underlying d = some .string := by assumption
        split at hz
        · rename_i rows h4 h5
          split at hz
          · rename_i ns hns
            cases hz
            refine ⟨.string (strOf ns), _, hs, .u (.str _), fun w hw => ?_⟩
            have hw := hw.resolve_left (by simp [pureS])
            obtain ⟨a, c, hv, hsrc⟩ := srcS_W (h0 := w.heap) h5 M (ev_S F x) (fun b o hb => hw _ _ (.inl hb)) fun b ch p hb hc hp => hw _ _ (.inr ⟨b, ch, by rw [inL_iff]; simp [srcOf, Op.operands, refsL, hb], hc, hp⟩)
            simp only [execOp, hv]
            rw [Sem.run_bind, run_convert_bytes_string w s d e a _ _ h1 h4 h2, bstr_run (byteR_S hns) hsrc]
            rfl
          · cases hz
        · cases hz
      · cases hz
    · exact hs.elim
 case makeFunc fn a c =>
  cases fn with
  | func g =>
    refine ⟨_, _, hs, .f (evL_S F a.toList) (evL_S F c.toList), fun w _ => ?_⟩
    have e : ∀ (l : Array Operand), l.map (ev T) = (l.toList.map (ev T)).toArray := fun l => by cases l; simp
    simp only [execOp, Instr.makeFunc, e]
    rfl
  | _ => exact hs.elim
 case fieldAddr S x f =>
  split at hs
  · rename_i fs hu
    split at hs
    · rename_i fd hfd
      obtain ⟨hz, hs⟩ := nz_spec hs
      obtain ⟨i, hi, his⟩ := lay1_some hz
      have run : ∀ {b o : Nat} (w : World), ev T x = .pointer (some ⟨b, o, none⟩) → (execOp (ev T) ⟨dst, .fieldAddr S x f, ty, pos, after, guard⟩).run P w = .ok (.value (.pointer (some ⟨b, o + fd.offset, none⟩))) w := fun w ha => by
       simp [execOp, Instr.fieldAt, ha, run_underlying hu, hfd, Instr.sureAddr, fieldPlace, run_sizeOf1 hi, his, hz, add_plain]
      have hx := ev_S F x
      unfold ptrAdd at hs
      split at hs
      · rename_i b o he
        rw [he] at hx
        obtain ⟨L, h1, hv⟩ := hx.r_inv
        rw [addO_eq] at hs
        exact ⟨_, _, hs, .r h1, fun w _ => run w hv⟩
      · rename_i b sz k o he
        rw [he] at hx
        obtain ⟨L, p, q, h1, h2, h3, h4, hv⟩ := hx.e_inv
        rw [addO_eq] at hs
        exact ⟨_, _, hs, .e h1 h2 h3 h4, fun w _ => by rw [run w hv, Nat.add_assoc]⟩
      · rename_i c o he
        rw [he] at hx
        obtain ⟨p, o', h1, hv⟩ := hx.q_inv
        rw [addO_eq] at hs
        exact ⟨_, _, hs, .q h1 rfl _, fun w _ => by rw [run w hv, Nat.add_assoc]⟩
      · rename_i p he
        rw [he] at hx
        obtain ⟨c, rfl, hK⟩ := oP_spec hs
        obtain ⟨p, o, h1, hv⟩ := hx.p_inv
        exact ⟨_, _, hK, .q h1 rfl _, fun w _ => run w hv⟩
      · exact hs.elim
    · exact hs.elim
  · exact hs.elim
 case field S x f =>
  have hx := ev_S F x
  split at hs
  · rename_i fs l hu he
    rw [he] at hx
    split at hs
    · rename_i fd hfd
      obtain ⟨vs, hv, hc⟩ := hx.a_inv
      · split at hs
        · rename_i z v r hS hd
          obtain ⟨hk, hK⟩ := cond_spec hs
          obtain ⟨p, s, rfl, hp, hr⟩ := dropC_S hd hc
          cases hr with
          | @cons vv _ vvs _ a n b =>
            refine ⟨_, _, hK, a, fun w _ => ?_⟩
            simp only [execOp, Instr.field, hv, asAgg, run_underlying hu, hfd, Sem.run_bind, Result.andThen_ok, Sem.run_pure]
            rw [run_pt1 (layS_one hS) (v := vv) (by simp [← hp]) w]
            rfl
          | n hl b => simp [shOk] at hk
        · rename_i zs r hS hd
          split at hs
          · rename_i vs' hv'
            obtain ⟨p, s, rfl, hp, hr⟩ := dropC_S hd hc
            obtain ⟨p2, s2, rfl, hp2, hr2⟩ := prefC_S hv' hr
            obtain ⟨cs, h1, h2⟩ := layS_many hS
            refine ⟨_, _, hs, .a hr2, fun w _ => ?_⟩
            simp only [execOp, Instr.field, hv, asAgg, run_underlying hu, hfd, Sem.run_bind, Result.andThen_ok, Sem.run_pure]
            rw [← hp, run_ptN h1 (by rw [hp2, h2]) w]
            rfl
          · exact hs.elim
        · exact hs.elim
    · exact hs.elim
  · exact hs.elim
 case indexAddr S x i =>
  have hx := asD_S (ev_S F x)
  have hi := ev_S F i
  split at hs
  · rename_i k z hei
    rw [hei] at hi
    have hi := u_int hi
    split at hs
    · rename_i e s rows hu he
      rw [he] at hx
      obtain ⟨hc, hs2⟩ := cond_spec hs
      simp only [Bool.and_eq_true, Bool.not_eq_true'] at hc
      have hse := Nat.eq_of_beq_eq_true hc.1
      subst hse
      obtain ⟨h0, r, hr, hK⟩ := elL_spec hs2
      have hne : lay1 P e ≠ 0 := fun h0 => by rw [h0] at hc; simp at hc
      obtain ⟨a, c, hv, hrd⟩ := hx.l_inv
      · obtain ⟨b, o, ha, hpp, -⟩ := hrd.at hr
        have hlt := (List.getElem?_eq_some_iff.1 hr).1
        exact ⟨_, _, hK, .q hpp rfl 0, fun w _ => by simp [execOp, hv, hi, run_indexAt hu h0 (show z < (rows.length : Int) by omega) ha hne]⟩
    · rename_i e s rows hu he
      rw [he] at hx
      obtain ⟨hc, hs2⟩ := cond_spec hs
      simp only [Bool.and_eq_true, Bool.not_eq_true'] at hc
      have hse := Nat.eq_of_beq_eq_true hc.1
      subst hse
      obtain ⟨h0, r, hr, hK⟩ := elL_spec hs2
      have hne : lay1 P e ≠ 0 := fun h0 => by rw [h0] at hc; simp at hc
      obtain ⟨a, hv, hrd⟩ := hx.c_inv
      · obtain ⟨b, o, ha, hpp, -⟩ := hrd.at hr
        have hlt := (List.getElem?_eq_some_iff.1 hr).1
        exact ⟨_, _, hK, .q hpp rfl 0, fun w _ => by simp [execOp, hv, hi, run_indexAt hu h0 (show z < (rows.length : Int) by omega) ha hne]⟩
    · rename_i e b hu he
      rw [he] at hx
      split at hs
      · rename_i E sz rows hm
        obtain ⟨hc, h0, h1, hK⟩ := cond_spec hs
        simp only [Bool.and_eq_true, Bool.not_eq_true'] at hc
        have hse := Nat.eq_of_beq_eq_true hc.1
        subst hse
        have hne : lay1 P e ≠ 0 := fun h0 => by rw [h0] at hc; simp at hc
        obtain ⟨L, ch, g1, g2, g3⟩ := M.get (b := b) (by rw [hm]; simp)
        rw [hm] at g3
        obtain ⟨L', hL, hv⟩ := hx.w_inv
        · rw [g1] at hL; cases hL
          cases g3 with
          | w own hn =>
            have : ∃ p q, L.a = some ⟨p, q, none⟩ := by
             generalize L.a = A, L.c = c at own
             cases own with
             | nil => simp at h1; omega
             | row => exact ⟨_, _, rfl⟩
            obtain ⟨p, q, hA⟩ := this
            refine ⟨_, _, hK, .e g1 hA h0 (by rw [hn]; exact h1), fun w _ => ?_⟩
            simp [execOp, hv, hi, run_indexAt hu h0 (show z < (L.n : Int) by omega) hA hne]
      · rename_i E sz n l hm
        obtain ⟨hc, h0, h1, hK⟩ := cond_spec hs
        simp only [Bool.and_eq_true, Bool.not_eq_true'] at hc
        have hse := Nat.eq_of_beq_eq_true hc.1
        subst hse
        have hne : lay1 P e ≠ 0 := fun h0 => by rw [h0] at hc; simp at hc
        obtain ⟨L, ch, g1, g2, g3⟩ := M.get (b := b) (by rw [hm]; simp)
        rw [hm] at g3
        obtain ⟨L', hL, hv⟩ := hx.w_inv
        · rw [g1] at hL; cases hL
          cases g3 with
          | cw hA hn hcc hl h5 h6 =>
            refine ⟨_, _, hK, .e g1 hA h0 (by rw [hn]; exact h1), fun w _ => ?_⟩
            simp [execOp, hv, hi, run_indexAt hu h0 (show z < (L.n : Int) by omega) hA hne]
      · exact hs.elim
    · rename_i e b sz l n c hu he
      rw [he] at hx
      obtain ⟨hc, h0, h1, hK⟩ := cond_spec hs
      simp only [Bool.and_eq_true, Bool.not_eq_true'] at hc
      have hse := Nat.eq_of_beq_eq_true hc.1
      subst hse
      have hne : lay1 P e ≠ 0 := fun h0 => by rw [h0] at hc; simp at hc
      obtain ⟨L, a, cap, g1, g2, g3, g4, g5, g6, g7, hv⟩ := hx.v_inv
      obtain ⟨p, q, hA, ha⟩ := g4 (by omega)
      refine ⟨_, _, hK, .e g1 hA (by omega) (by omega), fun w _ => ?_⟩
      have e1 : ((l : Int) + z).toNat = l + z.toNat := by omega
      simp [execOp, hv, hi, run_indexAt hu h0 (show z < (n : Int) by omega) ha hne, e1, Nat.add_mul, Nat.add_assoc]
    · rename_i e b o n hu he
      rw [he] at hx
      obtain ⟨hne, hs⟩ := nz_spec hs
      obtain ⟨j, rfl, hj, hK⟩ := idxK_spec hs
      obtain ⟨L, a, cap, g1, g2, g3, hv⟩ := hx.sl_inv
      refine ⟨_, _, hK, .r g1, fun w _ => ?_⟩
      have := run_indexAt (P := P) (k := k) (c := cap) (z := (Int.ofNat j)) hu (Int.natCast_nonneg j) (show (Int.ofNat j) < (n : Int) from Int.ofNat_lt.2 hj) (g2 (by omega)) hne w
      simp only [execOp, hv, hi]
      rw [Sem.run_bind, this]
      rfl
    · rename_i n e b sz k' o hu he
      rw [he] at hx
      obtain ⟨hne, hs⟩ := nz_spec hs
      obtain ⟨j, rfl, this, hK⟩ := idxK_spec hs
      obtain ⟨L, p, q, g1, g2, g3, g4, hv⟩ := hx.e_inv
      refine ⟨_, _, hK, .e g1 g2 g3 g4, fun w _ => ?_⟩
      have := run_indexAt_arr (P := P) (k := k) (z := (Int.ofNat j)) hu (Int.natCast_nonneg j) (Int.ofNat_lt.2 this) (a := some ⟨p, q + k'.toNat * sz + o, none⟩) rfl hne w
      simp only [execOp, hv, hi]
      rw [Sem.run_bind, this]
      simp [Nat.add_assoc]
    · rename_i n e b o hu he
      rw [he] at hx
      split at hs
      · rename_i cells hm
        obtain ⟨L, ch, g1, g2, g3⟩ := M.get (b := b) (by rw [hm]; simp)
        rw [hm] at g3
        obtain ⟨L', hL, hv⟩ := hx.r_inv
        · rw [g1] at hL; cases hL
          split at hs
          · rename_i k' w' l r hd
            obtain ⟨hc, h0, h1, hK⟩ := cond_spec hs
            simp only [Bool.and_eq_true] at hc
            have e1 := Nat.eq_of_beq_eq_true hc.1
            have e2 := Nat.eq_of_beq_eq_true hc.2
            refine ⟨_, _, hK, .g g1 h0 (by omega), fun w _ => ?_⟩
            simp [execOp, hv, hi, run_indexAt_arr hu h0 h1 rfl (show lay1 P e ≠ 0 by omega), e2]
          · split at hs
            · rename_i j _
              obtain ⟨hc, hs⟩ := cond_spec hs
              obtain ⟨hne, hK⟩ := nz_spec hs
              have := Nat.le_of_ble_eq_true hc
              refine ⟨_, _, hK, .r g1, fun w _ => ?_⟩
              have := run_indexAt_arr (P := P) (k := k) (z := (Int.ofNat j)) hu (Int.natCast_nonneg j) (Int.ofNat_lt.2 this) (a := some ⟨L.b, o, none⟩) rfl hne w
              simp only [execOp, hv, hi]
              rw [Sem.run_bind, this]
              rfl
            · exact hs.elim
          · exact hs.elim
      · exact hs.elim
    · rename_i n e c o hu he
      rw [he] at hx
      obtain ⟨hne, hs⟩ := nz_spec hs
      obtain ⟨j, rfl, this, hK⟩ := idxK_spec hs
      obtain ⟨p, o2, hrd, hv⟩ := hx.q_inv
      refine ⟨_, _, hK, .q hrd rfl _, fun w _ => ?_⟩
      have := run_indexAt_arr (P := P) (k := k) (z := (Int.ofNat j)) hu (Int.natCast_nonneg j) (Int.ofNat_lt.2 this) (a := some ⟨p, o2 + o, none⟩) rfl hne w
      simp only [execOp, hv, hi]
      rw [Sem.run_bind, this]
      simp [Nat.add_assoc]
    · exact hs.elim
  · exact hs.elim
 case index S x i =>
  have hx := ev_S F x
  have hi := ev_S F i
  split at hs
  · rename_i k z hei
    rw [hei] at hi
    have hi := u_int hi
    split at hs
    · rename_i s hu he
      rw [he] at hx
      obtain ⟨h0, h1, hK⟩ := hs
      refine ⟨_, _, hK, .u (.int _ _), fun w _ => yp ?_ w⟩
      simp only [pureK, hu, u_str hx, hi]
      exact ⟨h0, h1, trivial⟩
    · rename_i n e l hu he
      rw [he] at hx
      split at hs
      · rename_i zs us hz hcu
        obtain ⟨hc, hs⟩ := cond_spec hs
        have hn := Nat.eq_of_beq_eq_true hc
        obtain ⟨h0, r, hr, hs⟩ := elL_spec hs
        obtain ⟨r', hl, hg, hK⟩ := dUs_spec hs
        obtain ⟨vs, hv, hcc⟩ := hx.a_inv
        · have hrd := RpC.toU hcu hcc
          obtain ⟨hlt, hd⟩ := chunk_get hr
          have hb : (z.toNat + 1) * zs.length ≤ us.length := by rw [hn]; exact Nat.mul_le_mul_right _ (by omega)
          obtain ⟨v, hv1, hrun⟩ := part_S (P := P) (ρ := ρ) hz hrd hb hd hl hg
          obtain ⟨inf, hinf, hsz⟩ := zeros_info hz
          refine ⟨v, _, hK, hv1, fun w _ => ?_⟩
          simp only [execOp, Instr.index, hv, hi, asIntOf, Sem.run_bind, Sem.run_pure, Result.andThen_ok, run_underlying hu]
          rw [if_pos ⟨h0, by omega⟩]
          simp only [Sem.run_bind, run_sizeOf1 hinf, Result.andThen_ok, hsz, hrun w]
      · exact hs.elim
    · exact hs.elim
  · exact hs.elim
 case extract x i =>
  have hx := ev_S F x
  split at hs
  · rename_i l he
    rw [he] at hx
    obtain ⟨hc, hK⟩ := cond_spec hs
    have := Nat.le_of_ble_eq_true hc
    obtain ⟨vs, hv, hl⟩ := hx.t_inv
    have hlt : i < vs.length := by rw [hl.len']; omega
    exact ⟨vs[i], _, hK, hl.at (List.getElem?_eq_getElem hlt), fun w _ => by simp [execOp, Instr.extract, hv, hlt]⟩
  · exact hs.elim
 case build S ps =>
  have hps : RpL D ρ ((ps.toList.map fun p => (p.1, ev T p.2)).map (·.2)) ((ps.toList.map fun p => (p.1, evS t p.2)).map (·.2)) := by
   have h := evL_S F (ps.toList.map (·.2)); rw [List.map_map, List.map_map] at h; rw [List.map_map, List.map_map]; exact h
  have hpm : (ps.toList.map fun p => (p.1, ev T p.2)).map (·.1) = (ps.toList.map fun p => (p.1, evS t p.2)).map (·.1) := by simp [List.map_map, Function.comp_def]
  have hpa : (ps.map fun (x : Nat × Operand) => (x.1, ev T x.2)).toList = ps.toList.map fun p => (p.1, ev T p.2) := by simp
  split at hs
  · rename_i inf fs hi hu
    split at hs
    · rename_i cs hz
      obtain ⟨hl, hs⟩ := cond_spec hs
      split at hs
      · rename_i l hf
        obtain ⟨vs', hf', hr⟩ := fillC_S hf (normC_S (ofV1L_S cs.toList)) hpm hps
        refine ⟨_, _, hs, .a (normC_S hr), fun w _ => yp ?_ w⟩
        simp only [pureK, hu, hi, hz, hl, cond_true, hf']
      · exact hs.elim
    · exact hs.elim
  · rename_i inf n e hi hu
    split at hs
    · rename_i cs hz
      obtain ⟨hne, hs⟩ := nz_spec hs
      split at hs
      · rename_i l hf
        obtain ⟨vs', hf', hr⟩ := fillC_S hf (fixN_S (ofV1L_S cs.toList)) hpm hps
        refine ⟨_, _, hs, .a (normC_S hr), fun w _ => ?_⟩
        obtain ⟨i2, hi2, his2⟩ := lay1_some hne
        have hzero : (zeroValue S).run P w = .ok (.agg cs) w := by simp [zeroValue, run_typeInfo w hi, hz]
        have hfill := fill_list hf'
        simp only [Array.toArray_toList] at hfill
        simp only [execOp, Instr.build, Sem.run_bind, hzero, Result.andThen_ok, run_underlying hu, run_sizeOf1 hi2, his2]
        show Result.andThen (Sem.run P (match Instr.fill (fun i => some (i * lay1 P e, lay1 P e)) cs (ps.map fun (x : Nat × Operand) => (x.1, ev T x.2)).toList with
         | some cells => pure (Value.agg cells) | _ => stuck "build: a part of the wrong size") w) _ = _
        rw [hpa, hfill]
        rfl
      · exact hs.elim
    · exact hs.elim
  · exact hs.elim
 case slice S x lo hi mx =>
  have hx := asD_S (ev_S F x)
  split at hs
  · rename_i s hu he
    rw [he] at hx
    split at hs
    · rename_i l r hl hr
      have key := leK_mono (B := l ≤ r ∧ r ≤ s.size ∧ True) hs fun hh => ⟨hh.1, hh.2.1, trivial⟩
      refine ⟨_, _, (leK_spec (bnd_S F hl) hs).2.2.2, .u (.str _), fun w _ => yp ?_ w⟩
      simp only [pureK, hu, u_str hx, bnd_S F hl, bnd_S F hr]
      exact key
    · exact hs.elim
  · rename_i e s rows hu he
    rw [he] at hx
    obtain ⟨hc, hs2⟩ := cond_spec hs
    simp only [Bool.and_eq_true, Bool.not_eq_true'] at hc
    have hse := Nat.eq_of_beq_eq_true hc.1
    subst hse
    have hne : lay1 P e ≠ 0 := fun h0 => by rw [h0] at hc; simp at hc
    have hnz : ∀ {A : Prop}, A → nz (lay1 P e) A := fun hA => by
     unfold nz
     rw [show Nat.beq (lay1 P e) 0 = false from hc.2]; exact hA
    obtain ⟨a, c, hv, hrd⟩ := hx.l_inv
    have hcap := hrd.len.2
    split at hs2
    · rename_i l r hl hr
      obtain ⟨h0, h1, h2, hK⟩ := leK_spec (bnd_S F hl) hs2
      have hpart := Rd.part hrd (l := l.toNat) (r := r.toNat) (by omega) (by omega)
      refine ⟨_, _, hK, .u hpart, fun w _ => yp ?_ w⟩
      simp only [pureK, hu, hv, bnd_S F hl, bnd_S F hr]
      exact leK_mono hs2 fun hh => ⟨hh.1, by omega, hnz trivial⟩
    · rename_i mx l r hl hr
      split at hs2
      · rename_i k kk hm
        obtain ⟨hhi, hs3⟩ := cond_spec hs2
        obtain ⟨h0, h1, h2, h3, hK⟩ := leK_spec (bnd_S F hl) hs3
        subst h3
        have hmx : bnd T (some mx) 0 = some kk := bnd_S F (by simp [bndS, hm])
        refine ⟨_, _, hK, .c (a := slA a kk.toNat l.toNat (lay1 P e)) (n := subN kk.toNat l.toNat) ?_, fun w _ => yp ?_ w⟩
        · exact hrd.part3 (by omega) (by omega)
        · simp only [pureK, hu, hv, bnd_S F hl, bnd_S F hr, hmx, hhi, cond_true]
          exact leK_mono hs3 fun hh => ⟨hh.1, Int.le_refl _, by omega, hnz trivial⟩
      · exact hs2.elim
    · exact hs2.elim
  · rename_i e s rows hu he
    rw [he] at hx
    obtain ⟨hc, hs2⟩ := cond_spec hs
    simp only [Bool.and_eq_true, Bool.not_eq_true'] at hc
    have hse := Nat.eq_of_beq_eq_true hc.1
    subst hse
    have hne : lay1 P e ≠ 0 := fun h0 => by rw [h0] at hc; simp at hc
    have hnz : ∀ {A : Prop}, A → nz (lay1 P e) A := fun hA => by
     unfold nz
     rw [show Nat.beq (lay1 P e) 0 = false from hc.2]; exact hA
    obtain ⟨a, hv, hrd⟩ := hx.c_inv
    split at hs2
    · rename_i l r hl hr
      obtain ⟨h0, h1, h2, h3, hK⟩ := leK_spec (bnd_S F hl) hs2
      have hpart := Rd.part hrd (l := l.toNat) (r := r.toNat) (by omega) (by omega)
      have e1 : r.toNat = rows.length := by omega
      refine ⟨_, _, hK, (?_ : Rp D ρ (.slice (slA a rows.length l.toNat (lay1 P e)) (subN r.toNat l.toNat) (subN rows.length l.toNat)) _), fun w _ => yp ?_ w⟩
      · rw [e1] at hpart ⊢; exact .c hpart
      · simp only [pureK, hu, hv, bnd_S F hl, bnd_S F hr]
        exact leK_mono hs2 fun hh => ⟨hh.1, by omega, hnz trivial⟩
    · exact hs2.elim
  · rename_i e b hu he
    rw [he] at hx
    split at hs
    · rename_i E sz rows hm
      obtain ⟨L', ch, g1, g2, g3⟩ := M.get (b := b) (by rw [hm]; simp)
      obtain ⟨L, hL, hv⟩ := hx.w_inv
      rw [hL] at g1; cases g1
      rw [hm] at g3
      cases g3 with
      | w own hn =>
        have hx' : Rp D ρ (ev T x) (.v b sz 0 rows.length false) := by
         rw [hv]
         refine hn ▸ .v hL (by omega) (fun _ => rfl) (fun h0 => ?_) (by rw [hn]; exact own.len) (by simp) (fun _ _ => rfl)
         obtain ⟨p, e1⟩ := own.some_of (fun e1 => by rw [e1] at hn; simp at hn; omega)
         exact ⟨p, 0, e1, by rw [e1]; simp⟩
        exact view_S (chs := chs) F hu hs hx'
    · exact hs.elim
  · rename_i e b sz l n c hu he
    rw [he] at hx
    exact view_S (chs := chs) F hu hs hx
  · exact hs.elim
 case load S a =>
  obtain ⟨bb, oo, v, x, hv, hK, hr, hrun⟩ := sLoad_S hs M (ev_S F a) (bs := srcOf t ⟨dst, .load S a, ty, pos, after, guard⟩) fun b hb => by
   rw [inL_iff]; simp [srcOf, Op.operands, refsL, hb]
  exact ⟨v, x, hK, hr, fun w hw => by
   have hw := hw.resolve_left (by simp [pureS, pureOp])
   simp [execOp, Instr.loadAt, Instr.sureAddr, hv, hrun w hw]⟩
 case lookup S x k ok =>
  obtain ⟨v, y, hK, hr, hrun⟩ := look_S hs M (ev_S F x) (ev_S F k) (bs := srcOf t ⟨dst, .lookup S x k ok, ty, pos, after, guard⟩) fun b hb => by
   rw [inL_iff]; simp [srcOf, Op.operands, refsL, hb]
  exact ⟨v, y, hK, hr, fun w hw => by
   have hw := hw.resolve_left (by simp [pureS, pureOp])
   simp [execOp, hrun w hw]⟩
 case call c =>
  obtain ⟨callee, args, argTypes⟩ := c
  simp only at hs
  split at hs
  · split at hs
    · rename_i x S hax hat
      obtain ⟨hc, hs⟩ := cond_spec hs
      have hx := ev_S F x
      have ha1 : args = #[x] := by rw [← Array.toArray_toList (xs := args), hax]
      have ha2 : argTypes = #[S] := by rw [← Array.toArray_toList (xs := argTypes), hat]
      subst ha1 ha2
      have sl : ∀ {a : Option Addr} {n c : Nat} {e : TypeId}, P.underlying S = some (.slice e) → ev T x = .slice a n c → ∀ w : World, (execOp (ev T) ⟨dst, .call ⟨.builtin .len, #[x], #[S]⟩, ty, pos, after, guard⟩).run P w = .ok (.value (.int .i64 n)) w :=
       fun hu hv w => by simp [execOp, resolve, invoke, Go.builtin, Builtin.len_, goInt, hv, run_underlying hu]
      unfold okLen at hc
      split at hc
      · rename_i s hu he
        rw [he] at hx hs
        refine ⟨_, _, hs, .u (.int _ _), fun w _ => ?_⟩
        simp [execOp, resolve, invoke, Go.builtin, Builtin.len_, goInt, u_str hx, run_underlying hu]
      · rename_i e s rows hu he
        rw [he] at hx hs
        obtain ⟨a, c, hv, -⟩ := hx.l_inv
        exact ⟨_, _, hs, .u (.int _ _), fun w _ => sl hu hv w⟩
      · rename_i e s rows hu he
        rw [he] at hx hs
        obtain ⟨a, hv, -⟩ := hx.c_inv
        exact ⟨_, _, hs, .u (.int _ _), fun w _ => sl hu hv w⟩
      · rename_i e hu he
        rw [he] at hx hs
        have hv : ev T x = .slice none 0 0 := by generalize ev T x = v at hx; cases hx; rfl
        exact ⟨_, _, hs, .u (.int _ _), fun w _ => sl hu hv w⟩
      · rename_i e b hu he
        rw [he] at hx hs
        obtain ⟨L, hL, hv⟩ := hx.w_inv
        simp only [lenS] at hs
        split at hs
        · rename_i E sz rows hm
          obtain ⟨L', ch, g1, g2, g3⟩ := M.get (b := b) (by rw [hm]; simp)
          rw [hL] at g1; cases g1
          rw [hm] at g3
          cases g3 with
          | w own hn => exact ⟨_, _, hs, .u (.int _ _), fun w _ => by rw [← hn]; exact sl hu hv w⟩
        · rename_i E sz n l hm
          obtain ⟨L', ch, g1, g2, g3⟩ := M.get (b := b) (by rw [hm]; simp)
          rw [hL] at g1; cases g1
          rw [hm] at g3
          cases g3 with
          | cw hA hn hc hl h5 h6 => exact ⟨_, _, hs, .u (.int _ _), fun w _ => by rw [← hn]; exact sl hu hv w⟩
        · exact hs.elim
      · rename_i e b sz l n c hu he
        rw [he] at hx hs
        obtain ⟨L, a, cap, g1, g2, g3, g4, g5, g6, g7, hv⟩ := hx.v_inv
        exact ⟨_, _, hs, .u (.int _ _), fun w _ => sl hu hv w⟩
      · rename_i e b o n hu he
        rw [he] at hx hs
        obtain ⟨L, a, cap, g1, g2, g3, hv⟩ := hx.sl_inv
        exact ⟨_, _, hs, .u (.int _ _), fun w _ => sl hu hv w⟩
      · rename_i K E b hu he
        rw [he] at hx hs
        simp only [lenS] at hs
        split at hs
        · rename_i kt sz ag rows hm
          obtain ⟨L', ch, g1, g2, g3⟩ := M.get (b := b) (by rw [hm]; simp)
          rw [hm] at g3
          generalize hv : ev T x = v at hx
          cases hx with
          | m hL =>
            rw [hL] at g1; cases g1
            cases g3 with
            | p I R hl =>
              rename_i es clk mv
              have hn : es.size = rows.length := by rw [← R.len, ← mEnt_len I.ent]; simp
              refine ⟨_, _, hs, .u (.int _ _), fun w hw => ?_⟩
              have hw := hw.resolve_left (by simp [pureS, pureOp])
              have hb := hw _ _ (.inr ⟨b, _, by rw [inL_iff]; simp [srcOf, Op.operands, Call.operands, refsL, he, refsV], g2, List.mem_singleton_self _⟩)
              simp [execOp, resolve, invoke, Go.builtin, Builtin.len_, goInt, hv, run_underlying hu, MapKept.run_getObj_map hb, hn]
        · exact hs.elim
      · rename_i K E hu he
        rw [he] at hx hs
        generalize hv : ev T x = v at hx
        cases hx
        exact ⟨_, _, hs, .u (.int _ _), fun w _ => by simp [execOp, resolve, invoke, Go.builtin, Builtin.len_, goInt, hv, run_underlying hu]⟩
      · cases hc
    · exact hs.elim
  · split at hs
    · rename_i vs ha
      obtain ⟨v, hv, hr⟩ := XWp.sound hs
      refine ⟨v, _, hv, absV_S v, fun w _ => ?_⟩
      have e : args.map (ev T) = vs.toArray := by rw [← args_S F ha]; cases args; simp
      simp [execOp, resolve, invoke, Go.builtin, e, hr w]
    · exact hs.elim
  · split at hs
    · rename_i vs ha
      obtain ⟨v, hv, hr⟩ := XWp.sound hs
      refine ⟨v, _, hv, absV_S v, fun w _ => ?_⟩
      have e : args.map (ev T) = vs.toArray := by rw [← args_S F ha]; cases args; simp
      simp [execOp, resolve, invoke, Go.builtin, e, hr w]
    · exact hs.elim
  · exact hs.elim
end Go.Proofs.YtaogfopaalancaaDoor
/- The symbolic engine, part f: memory; operations that turn it. -/
set_option linter.unusedVariables false
namespace Go.Proofs.YtaogfopaalancaaDoor
open Go
variable {P : Program} {D D' : Fz} {ρ : List Loc} {m : Mem} {chs C : List Chunk} {h h' : Heap} {T : List Value} {t : List V}
theorem ms_len : ∀ (m : Mem) (b : Nat) (a : AB), (ms m b a).length = m.length
 | [], _, _ => rfl
 | _ :: _, 0, _ => rfl
 | y :: m, b + 1, a => by simp [ms, ms_len m b a]
theorem ms_eq : ∀ (m : Mem) (b : Nat) (a : AB), ms m b a = m.set b a
 | [], _, _ => rfl
 | _ :: _, 0, _ => rfl
 | y :: m, b + 1, a => by simp [ms, ms_eq m b a]
theorem mg_get (m : Mem) (i : Nat) : mg m i = (m[i]?).getD .x := by
 induction m generalizing i with
 | nil => rfl
 | cons a m ih => cases i with
   | zero => rfl
   | succ i => simpa [mg] using ih i
theorem mg_ms_ne {m : Mem} {b c : Nat} {a : AB} (hn : b ≠ c) : mg (ms m b a) c = mg m c := by rw [mg_get, mg_get, ms_eq, List.getElem?_set_ne hn]
theorem mg_ms {m : Mem} {b : Nat} {a : AB} (hb : b < m.length) : mg (ms m b a) b = a := by rw [mg_get, ms_eq, List.getElem?_set_self hb]; rfl
theorem mg_app {m s : Mem} {b : Nat} (hb : b < m.length) : mg (m ++ s) b = mg m b := by rw [mg_get, mg_get, List.getElem?_append_left hb]
theorem set_perm {α : Type} {l : List (List α)} {i : Nat} {c c' : List α} (hi : l[i]? = some c) : (l.set i c').flatten.Perm (c' :: l.eraseIdx i).flatten := by
 have hlt := (List.getElem?_eq_some_iff.1 hi).1
 have := perm_pick (C := l.set i c') (i := i) (c := c') (by rw [List.getElem?_set_self hlt])
 rwa [List.eraseIdx_set_eq] at this
theorem SAt.front (M : SAt D ρ m chs C h) {b : Nat} {ch : Chunk} (hc : chs[b]? = some ch) : St D (ch :: (chs ++ C).eraseIdx b) h := M.st.pick b (get_app hc)
theorem SAt.put (M : SAt D ρ m chs C h) {b : Nat} {L : Loc} {ab : AB} {ch ch' : Chunk} (hL : ρ[b]? = some L) (hc : chs[b]? = some ch) {C' : List Chunk} (S : St D' (ch' :: (chs ++ C').eraseIdx b) h') (l : Le D D') (he : Ent D' ρ L ab ch') :
 SAt D' ρ (ms m b ab) (chs.set b ch') C' h' where
 len := by rw [ms_len]; exact M.len
 lch := by rw [ms_len, List.length_set]; exact M.lch
 ent i L' ab' ch'' h1 h2 h3 := by
  by_cases hi : b = i
  · subst hi
    have hlt : b < chs.length := (List.getElem?_eq_some_iff.1 hc).1
    rw [ms_eq, List.getElem?_set_self (by rw [← M.lch]; exact hlt)] at h2
    rw [List.getElem?_set_self hlt] at h3
    rw [hL] at h1
    cases h1; cases h2; cases h3
    exact he
  · rw [ms_eq, List.getElem?_set_ne hi] at h2
    rw [List.getElem?_set_ne hi] at h3
    have := (M.ent i L' ab' ch'' h1 h2 h3).mono l []
    rwa [List.append_nil] at this
 st := by
  have hlt : b < chs.length := (List.getElem?_eq_some_iff.1 hc).1
  refine S.perm ?_
  have := set_perm (l := chs ++ C') (c' := ch') (get_app hc)
  rw [List.set_append_left _ _ hlt] at this
  exact this.symm
theorem SAt.mono (M : SAt D ρ m chs C h) (l : Le D D') {C' : List Chunk} (S : St D' (chs ++ C') h') : SAt D' ρ m chs C' h' where
 len := M.len
 lch := M.lch
 ent i L ab ch h1 h2 h3 := by
  have := (M.ent i L ab ch h1 h2 h3).mono l []
  rwa [List.append_nil] at this
 st := S
theorem SAt.push {ch : Chunk} (M : SAt D ρ m chs (ch :: C) h) {L : Loc} {ab : AB} (he : Ent D (ρ ++ [L]) L ab ch) : SAt D (ρ ++ [L]) (m ++ [ab]) (chs ++ [ch]) C h where
 len := by simp [M.len]
 lch := by simp [M.lch]
 ent i L' ab' ch' h1 h2 h3 := by
  have hl := M.len
  have hc := M.lch
  by_cases hi : i < m.length
  · rw [List.getElem?_append_left (by omega)] at h1 h2 h3
    exact (M.ent i L' ab' ch' h1 h2 h3).mono (.refl D) [L]
  · have hlt := (List.getElem?_eq_some_iff.1 h2).1
    simp at hlt
    have hi : i = m.length := by omega
    subst hi
    rw [List.getElem?_append_right (by omega), ← hl] at h1
    rw [List.getElem?_append_right (by omega)] at h2
    rw [List.getElem?_append_right (by omega), ← hc] at h3
    simp at h1 h2 h3
    subst h1 h2 h3
    exact he
 st := M.st.perm (by simp [List.flatten_append])
variable {ro hr : List Nat}
theorem Nx.refl : Nx ro hr D ρ m chs D ρ m chs := ⟨.refl D, ⟨[], by simp⟩, fun _ _ _ => rfl, fun _ _ _ => rfl, Nat.le_refl _⟩
theorem Nx.trans {D1 D2 : Fz} {ρ1 ρ2 : List Loc} {m1 m2 : Mem} {c1 c2 : List Chunk} (a : Nx ro hr D ρ m chs D1 ρ1 m1 c1) (b : Nx ro hr D1 ρ1 m1 c1 D2 ρ2 m2 c2) : Nx ro hr D ρ m chs D2 ρ2 m2 c2 where
 le := a.le.trans b.le
 pre := by obtain ⟨s, rfl⟩ := a.pre; obtain ⟨s', rfl⟩ := b.pre; exact ⟨s ++ s', by simp⟩
 keep i h1 h2 := by rw [b.keep i h1 (Nat.lt_of_lt_of_le h2 a.len), a.keep i h1 h2]
 same i h1 h2 := by rw [b.same i h1 (Nat.lt_of_lt_of_le h2 a.len), a.same i h1 h2]
 len := Nat.le_trans a.len b.len
theorem inL_left {a b : List Nat} {i : Nat} (h : inL a i = true) : inL (a ++ b) i = true := by rw [inL_iff] at h ⊢; simp [h]
theorem Nx.set {b : Nat} {ab : AB} {ch : Chunk} (l : Le D D') (hb : inL (hr ++ ro) b = false) : Nx ro hr D ρ m chs D' ρ (ms m b ab) (chs.set b ch) where
 le := l
 pre := ⟨[], by simp⟩
 keep i h1 h2 := by rw [List.getElem?_set_ne]; rintro rfl; rw [inL_left h1] at hb; cases hb
 same i h1 h2 := mg_ms_ne (by rintro rfl; rw [h1] at hb; cases hb)
 len := by rw [ms_len]; exact Nat.le_refl _
theorem Nx.push (M : SAt D ρ m chs C h) {s : List Loc} {a : Mem} {c : List Chunk} (l : Le D D') : Nx ro hr D ρ m chs D' (ρ ++ s) (m ++ a) (chs ++ c) where
 le := l
 pre := ⟨s, rfl⟩
 keep i h1 h2 := List.getElem?_append_left (by rw [M.lch]; exact h2)
 same i h1 h2 := mg_app h2
 len := by simp
theorem Nx.rp {D' : Fz} {ρ' : List Loc} {m' : Mem} {chs' : List Chunk} (n : Nx ro hr D ρ m chs D' ρ' m' chs') {v : Value} {x : V} (hv : Rp D ρ v x) : Rp D' ρ' v x := by
 obtain ⟨s, rfl⟩ := n.pre; exact hv.mono n.le s
theorem Nx.rpL {D' : Fz} {ρ' : List Loc} {m' : Mem} {chs' : List Chunk} (n : Nx ro hr D ρ m chs D' ρ' m' chs') {v : List Value} {x : List V} (hv : RpL D ρ v x) : RpL D' ρ' v x := by
 obtain ⟨s, rfl⟩ := n.pre; exact hv.mono n.le s
theorem Nx.rpC {D' : Fz} {ρ' : List Loc} {m' : Mem} {chs' : List Chunk} (n : Nx ro hr D ρ m chs D' ρ' m' chs') {v : List Value} {x : List V} (hv : RpC D ρ v x) : RpC D' ρ' v x := by
 obtain ⟨s, rfl⟩ := n.pre; exact hv.mono n.le s
theorem toU_S {v : Value} {x : V} {u : U} {m' : Mem} (hs : toU (hr ++ ro) m x = some (u, m')) (M : SAt D ρ m chs C h) (hv : Rp D ρ v x) :
 ∃ D' chs', Nx ro hr D ρ m chs D' ρ m' chs' ∧ SAt D' ρ m' chs' C h ∧ Rd D' v u := by
 unfold toU at hs
 split at hs
 · cases hs; cases hv with | u hv => exact ⟨D, chs, .refl, M, hv⟩
 · cases hs; cases hv with | c hv => exact ⟨D, chs, .refl, M, hv⟩
 · cases hs; cases hv; exact ⟨D, chs, .refl, M, .nil _ _ _⟩
 · cases hs
   obtain ⟨p, o, h1, rfl⟩ := hv.q_inv
   exact ⟨D, chs, .refl, M, h1⟩
 · rename_i b
   split at hs
   · rename_i E sz rows hm
     cases hb : inL (hr ++ ro) b with
     | true => rw [hb] at hs; cases hs
     | false =>
       rw [hb] at hs
       cases hs
       obtain ⟨L, ch, h1, h2, h3⟩ := M.get (b := b) (by rw [hm]; simp)
       obtain ⟨L', h4, rfl⟩ := hv.w_inv
       rw [h1] at h4; cases h4
       rw [hm] at h3
       cases h3 with
       | w own hn =>
         obtain ⟨D', l, S, hr⟩ := own.freeze (M.front h2)
         rw [hn]
         exact ⟨D', _, .set l hb, M.put h1 h2 S.nil l .x, hr⟩
   · cases hs
 · cases hs
theorem toUs_S : ∀ {xs : List V} {us : List U} {vs : List Value} {m m' : Mem} {D : Fz} {chs : List Chunk}, toUs (hr ++ ro) m xs = some (us, m') → SAt D ρ m chs C h → RpC D ρ vs xs →
 ∃ D' chs', Nx ro hr D ρ m chs D' ρ m' chs' ∧ SAt D' ρ m' chs' C h ∧ RdL D' vs us
 | [], us, vs, m, m', D, chs, hs, M, hv => by cases hs; cases hv; exact ⟨D, chs, .refl, M, .nil⟩
 | x :: xs, us, vs, m, m', D, chs, hs, M, hv => by
   simp only [toUs] at hs
   split at hs
   · rename_i u m1 h1
     split at hs
     · rename_i us' m2 h2
       cases hs
       cases hv with
       | cons a n b =>
         obtain ⟨D1, c1, n1, M1, r1⟩ := toU_S h1 M a
         obtain ⟨D2, c2, n2, M2, r2⟩ := toUs_S h2 M1 (n1.rpC b)
         exact ⟨D2, c2, n1.trans n2, M2, .cons (r1.mono n2.le) r2⟩
       | n hl b => simp [toU] at h1
     · cases hs
   · cases hs
theorem normV_S {S : TypeId} {v : Value} {x : V} (hv : Rp D ρ v x) : Rp D ρ v (normV P S x) := by
 unfold normV
 split
 · cases hv with | a h => exact .a (normC_S h)
 · split
   · cases hv; exact .nl
   · exact hv
 · exact hv
theorem vcells_S {S : TypeId} {v : Value} {x : V} {xs : List V} (hc : vcells P S x = some xs) (hv : Rp D ρ v x) : RpC D ρ v.cells.toList xs := cellsV_S hc (normV_S hv)
end Go.Proofs.YtaogfopaalancaaDoor
/- The symbolic engine, part g: operations that turn the memory are told rightly. -/
set_option linter.unusedVariables false
namespace Go.Proofs.YtaogfopaalancaaDoor
open Go
variable {P : Program} {D D' : Fz} {ρ : List Loc} {m : Mem} {chs C : List Chunk} {h h' : Heap} {T : List Value} {t : List V} {ro hr : List Nat}
theorem shOk_single {z : Value × Nat} {v : Value} {x : V} (hk : shOk z x = true) (hv : Rp D ρ v x) : single v = true := by
 obtain ⟨z, s⟩ := z
 unfold shOk at hk
 split at hk <;> first
  | (cases hk; done)
  | (cases hv with | u hr => cases hr <;> rfl)
  | (cases hv; rfl)
theorem shL_single : ∀ {xs : List V} {zs : List (Value × Nat)} {vs : List Value}, shL zs xs = true → RpC D ρ vs xs → vs.length = zs.length ∧ ∀ v ∈ vs, single v = true
 | [], zs, vs, hk, hv => by
   cases hv
   cases zs with
   | nil => exact ⟨rfl, by simp⟩
   | cons z zs => simp [shL] at hk
 | x :: xs, zs, vs, hk, hv => by
   cases hv with
   | n hl b =>
     rename_i k w l vs
     simp only [shL, Bool.and_eq_true] at hk
     obtain ⟨⟨⟨h1, h2⟩, h3⟩, h4⟩ := hk
     have := Nat.le_of_ble_eq_true h2
     obtain ⟨g1, g2⟩ := shL_single h4 b
     refine ⟨by simp at g1 ⊢; omega, fun v hv => ?_⟩
     rcases List.mem_append.1 hv with hv | hv
     · obtain ⟨i, -, rfl⟩ := List.mem_map.1 hv; rfl
     · exact g2 v hv
   | cons a n b =>
     cases zs with
     | nil => cases x <;> first | exact absurd rfl (n _ _ _) | simp [shL] at hk
     | cons z zs =>
       have : shOk z x = true ∧ shL zs xs = true := by cases x <;> first | exact absurd rfl (n _ _ _) | (simp only [shL, Bool.and_eq_true] at hk; exact hk)
       obtain ⟨g1, g2⟩ := shL_single this.2 b
       refine ⟨by simp [g1], fun v hv => ?_⟩
       rcases List.mem_cons.1 hv with rfl | hv
       · exact shOk_single this.1 a
       · exact g2 v hv
theorem cellsV_one {v : Value} {x : V} {xs : List V} (hc : cellsV x = some xs) (hn : ∀ l, x ≠ .a l) (hv : Rp D ρ v x) : v.cells.toList = [v] := by
 cases hv with
 | a => exact absurd rfl (hn _)
 | u hr => cases hr <;> rfl
 | z => cases hc
 | t => cases hc
 | _ => rfl
theorem cellsV_agg {v : Value} {l : List V} (hv : Rp D ρ v (.a l)) : ∃ vs, v = .agg vs := by obtain ⟨vs, rfl, -⟩ := hv.a_inv; exact ⟨_, rfl⟩
theorem storeK_of {S : TypeId} {zs : List (Value × Nat)} (hz : zerosOf P S = some zs) {v : Value} {x : V} {xs : List V} (hv : Rp D ρ v x) (hc : cellsV x = some xs) (ha : aggOk P S x = true) {b o : Nat} {K : Heap → Prop} (hn : v.cells.toList.length = zs.length)
 (hK : storeS b o v.cells.toList 0 h K) : storeK P S (some ⟨b, o, none⟩) v h K := by
 unfold zerosOf at hz
 unfold storeK
 split at hz
 · rename_i z hl
   cases hz
   rw [layS_one hl]
   have hx : ∀ l, x ≠ .a l := fun l e => by subst e; simp [aggOk, hl] at ha
   rw [cellsV_one hc hx hv] at hK
   exact hK
 · rename_i zs' hl
   cases hz
   obtain ⟨cs, h1, h2⟩ := layS_many hl
   rw [h1]
   have hx : ∃ l, x = .a l := by
    unfold aggOk at ha
    rw [hl] at ha
    cases x <;> first | exact ⟨_, rfl⟩ | simp at ha
   obtain ⟨l, rfl⟩ := hx
   obtain ⟨vs, rfl⟩ := cellsV_agg hv
   show cond (Nat.beq cs.length vs.toList.length) (storeS b o vs.toList 0 h K) False
   have : Nat.beq cs.length vs.toList.length = true := by rw [h2, ← hn]; exact Nat.beq_refl _
   rw [this]; exact hK
 · cases hz
theorem usp_eq : ∀ (l : List U) (o : Nat) (us : List U), o + us.length ≤ l.length → usp l o us = l.take o ++ us ++ l.drop (o + us.length)
 | l, o, [], h => by cases l <;> cases o <;> simp [usp]
 | [], o, u :: us, h => by simp at h
 | x :: l, 0, u :: us, h => by
   simp only [usp]
   rw [usp_eq l 0 us (by simp at h ⊢; omega)]
   simp
 | x :: l, o + 1, u :: us, h => by
   simp only [usp]
   rw [usp_eq l o (u :: us) (by simp at h ⊢; omega)]
   simp [show o + 1 + (us.length + 1) = (o + (us.length + 1)) + 1 by omega]
theorem usp_len (l : List U) (o : Nat) (us : List U) (h : o + us.length ≤ l.length) : (usp l o us).length = l.length := by rw [usp_eq l o us h]; simp; omega
theorem usp_get (l : List U) (o : Nat) (us : List U) (h : o + us.length ≤ l.length) (j : Nat) : (usp l o us)[j]? = if j < o then l[j]? else if j < o + us.length then us[j - o]? else l[j]? := by
 rw [usp_eq l o us h]
 have hl : (l.take o).length = o := by simp; omega
 split
 · rename_i hj; rw [List.append_assoc, List.getElem?_append_left (by omega), List.getElem?_take_of_lt hj]
 · rename_i hj
   split
   · rename_i hj2; rw [List.append_assoc, List.getElem?_append_right (by omega), hl, List.getElem?_append_left (by omega)]
   · rename_i hj2
     rw [List.getElem?_append_right (by simp; omega), List.getElem?_drop]
     congr 1
     simp [hl]; omega
theorem Own.poke {E sz c p q i o : Nat} {a : Option Addr} {rows : List (List U)} {r us : List U} {vs : List Value} {ch : Chunk} {CC : List Chunk} {K : Heap → Prop} (x : Own D E sz a c rows ch) (S : St D (ch :: CC) h) (ha : a = some ⟨p, q, none⟩) (hi : rows[i]? = some r)
 (hv : RdL D vs us) (ho : o + us.length ≤ sz) (hK : ∀ ch' h', Own D E sz a c (rows.set i (usp r o us)) ch' → St D (ch' :: CC) h' → K h') : storeS p (q + i * sz + o) vs 0 h K := by
 subst ha
 cases x with
 | nil => simp at hi
 | row b c arr rows v h1 h2 h3 h4 h5 =>
   obtain ⟨l⟩ := arr
   have hil := (List.getElem?_eq_some_iff.1 hi).1
   have hrl : r.length = sz := h3 r (List.mem_of_getElem? hi)
   have hsz : i * sz + sz ≤ l.length := by
    have h1' : l.length = c * sz := by simpa using h1
    rw [h1']
    have := Nat.mul_le_mul_right sz (show i + 1 ≤ c by omega)
    rwa [Nat.succ_mul] at this
   have hvl := hv.len
   refine S.st0 (Nat.ble_eq_true_of_le (by omega)) (List.all_eq_true.2 hv.single) fun h' S' => ?_
   have hl0 : 0 + i * sz + o + 0 + vs.length ≤ l.length := by omega
   refine hK _ h' (.row p c _ _ (fun k j => if k = i ∧ o ≤ j ∧ j < o + us.length then vs.getD (j - o) undef else v k j) ?_ (by simpa using h2) ?_ ?_ ?_) S'
   · simp only [List.size_toArray, splice_length]; simpa using h1
   · intro r' hr'
     rcases List.mem_or_eq_of_mem_set hr' with hr' | rfl
     · exact h3 r' hr'
     · rw [usp_len _ _ _ (by omega), hrl]
   · intro k j r' u hk hu
     simp only [List.getElem?_toArray]
     rw [splice_get _ _ _ _ hl0]
     by_cases hki : k = i
     · subst hki
       rw [List.getElem?_set_self hil] at hk
       cases hk
       have hj : j < sz := by have := (List.getElem?_eq_some_iff.1 hu).1; rwa [usp_len _ _ _ (by omega), hrl] at this
       rw [usp_get _ _ _ (by omega)] at hu
       by_cases c1 : j < o
       · rw [if_pos (by omega), if_neg (by omega)]
         rw [if_pos c1] at hu
         simpa using h4 k j r u hi hu
       · by_cases c2 : j < o + us.length
         · rw [if_neg (by omega), if_pos (by omega), if_pos ⟨rfl, by omega, c2⟩]
           rw [show k * sz + j - (0 + k * sz + o + 0) = j - o by omega]
           have : j - o < vs.length := by omega
           simp [this]
         · rw [if_neg (by omega), if_neg (by omega), if_neg (by omega)]
           rw [if_neg c1, if_neg c2] at hu
           simpa using h4 k j r u hi hu
     · rw [List.getElem?_set_ne (Ne.symm hki)] at hk
       have hj : j < sz := by have := (List.getElem?_eq_some_iff.1 hu).1; rwa [h3 r' (List.mem_of_getElem? hk)] at this
       have hd : k * sz + sz ≤ i * sz ∨ i * sz + sz ≤ k * sz := by
        rcases Nat.lt_or_gt_of_ne hki with hlt | hlt
        · have := Nat.mul_le_mul_right sz (show k + 1 ≤ i by omega); rw [Nat.succ_mul] at this; exact .inl this
        · have := Nat.mul_le_mul_right sz (show i + 1 ≤ k by omega); rw [Nat.succ_mul] at this; exact .inr this
       have := h4 k j r' u hk hu
       simp only [List.getElem?_toArray] at this
       simp only [hki, false_and, if_false]
       rcases hd with hd | hd
       · rw [if_pos (by omega)]; exact this
       · rw [if_neg (by omega), if_neg (by omega)]; exact this
   · intro k j r' u hk hu
     by_cases hki : k = i
     · subst hki
       rw [List.getElem?_set_self hil] at hk
       cases hk
       rw [usp_get _ _ _ (by omega)] at hu
       by_cases c1 : j < o
       · rw [if_neg (by omega)]; rw [if_pos c1] at hu; exact h5 k j r u hi hu
       · by_cases c2 : j < o + us.length
         · rw [if_pos ⟨rfl, by omega, c2⟩]
           rw [if_neg c1, if_pos c2] at hu
           obtain ⟨w, hw, hr⟩ := hv.get hu
           simp only [List.getD_eq_getElem?_getD, hw, Option.getD_some]; exact hr
         · rw [if_neg (by omega)]; rw [if_neg c1, if_neg c2] at hu; exact h5 k j r u hi hu
     · rw [List.getElem?_set_ne (Ne.symm hki)] at hk
       simp only [hki, false_and, if_false]; exact h5 k j r' u hk hu
theorem usp_all (r us : List U) (h : us.length = r.length) : usp r 0 us = us := by rw [usp_eq _ _ _ (by omega)]; simp [h]
theorem RdL.ofAt {arr : List Value} : ∀ {us : List U} {o : Nat}, (∀ j u, us[j]? = some u → ∃ v, arr[o + j]? = some v ∧ Rd D v u) → RdL D ((arr.drop o).take us.length) us
 | [], o, h => by rw [List.length_nil, List.take_zero]; exact .nil
 | u :: us, o, h => by
   obtain ⟨v, hv, hr⟩ := h 0 u rfl
   rw [Nat.add_zero] at hv
   obtain ⟨hlt, e⟩ := List.getElem?_eq_some_iff.1 hv
   rw [List.drop_eq_getElem_cons hlt, e, List.length_cons, List.take_succ_cons]
   exact .cons hr (RdL.ofAt fun j w hw => by
    have := h (j + 1) w (by simpa using hw)
    rwa [show o + (j + 1) = o + 1 + j by omega] at this)
theorem flat_inv {sz : Nat} : ∀ {rows : List (List U)} {k : Nat} {u : U}, (∀ r ∈ rows, r.length = sz) → rows.flatten[k]? = some u → ∃ (i j : Nat) (r : List U), rows[i]? = some r ∧ r[j]? = some u ∧ k = i * sz + j
 | [], k, u, _, h => by simp at h
 | r :: rows, k, u, hs, h => by
   rw [List.flatten_cons] at h
   have hr := hs r (by simp)
   by_cases hk : k < r.length
   · rw [List.getElem?_append_left hk] at h
     exact ⟨0, k, r, rfl, h, by omega⟩
   · rw [List.getElem?_append_right (by omega)] at h
     obtain ⟨i, j, r', h1, h2, h3⟩ := flat_inv (fun r hr => hs r (by simp [hr])) h
     exact ⟨i + 1, j, r', by simpa using h1, h2, by rw [Nat.succ_mul]; omega⟩
theorem flat_lenU {sz : Nat} : ∀ {rows : List (List U)}, (∀ r ∈ rows, r.length = sz) → rows.flatten.length = rows.length * sz
 | [], _ => by simp
 | r :: rows, hs => by rw [List.flatten_cons, List.length_append, flat_lenU (fun r hr => hs r (by simp [hr])), hs r (by simp), List.length_cons, Nat.succ_mul]; omega
theorem splice_app : ∀ (l : List Value) (o : Nat) (vs r : List Value), o + vs.length ≤ l.length → splice (l ++ r) o vs = splice l o vs ++ r := fun l o vs r h => by
 apply List.ext_getElem?
 intro j
 rw [splice_get _ _ _ _ (by rw [List.length_append]; omega)]
 by_cases hj : j < l.length
 · have e1 : (splice l o vs ++ r)[j]? = (splice l o vs)[j]? := List.getElem?_append_left (by rw [splice_length]; exact hj)
   rw [e1, splice_get _ _ _ _ h, List.getElem?_append_left hj]
 · have e1 : (splice l o vs ++ r)[j]? = r[j - l.length]? := by rw [List.getElem?_append_right (by rw [splice_length]; omega), splice_length]
   rw [e1, if_neg (by omega), if_neg (by omega), List.getElem?_append_right (by omega)]
theorem Own.cells {E sz c p q : Nat} {a : Option Addr} {rows : List (List U)} {ch : Chunk} (x : Own D E sz a c rows ch) (ha : a = some ⟨p, q, none⟩) (hne : rows ≠ []) : q = 0 ∧ ∃ vs ps : List Value, ch = [(p, .cells (vs ++ ps).toArray E (0, 0))] ∧ RpC D ρ vs (rows.flatten.map V.u) ∧ vs.length = rows.length * sz ∧ (vs ++ ps).length = c * sz ∧ rows.length ≤ c ∧ c ≤ 9223372036854775807 := by
 subst ha
 cases x with
 | nil => exact absurd rfl hne
 | row b c arr rows v h1 h2 h3 h4 h5 =>
   have hr : RdL D ((arr.toList.drop 0).take rows.flatten.length) rows.flatten := RdL.ofAt fun k u hu => by
    obtain ⟨i, j, r, g1, g2, rfl⟩ := flat_inv h3 hu
    refine ⟨v i j, ?_, h5 i j r u g1 g2⟩
    have := h4 i j r u g1 g2
    rw [Nat.zero_add]
    simpa using this
   rw [List.drop_zero] at hr
   refine ⟨rfl, arr.toList.take rows.flatten.length, arr.toList.drop rows.flatten.length, ?_, .ofU hr, ?_, ?_, h2⟩
   · rw [List.take_append_drop]
   · rw [hr.len, flat_lenU h3]
   · rw [List.take_append_drop]; simpa using h1
theorem sStore_S {vw : Bool} {S : TypeId} {a x : V} {va vx : Value} {KS : Mem → Prop} {K : Heap → Prop} (hs : sStore P vw (hr ++ ro) S a x m KS) (M : SAt D ρ m chs C h) (ha : Rp D ρ va a) (hx : Rp D ρ vx x)
 (hK : ∀ D' m' chs' h', Nx ro hr D ρ m chs D' ρ m' chs' → SAt D' ρ m' chs' C h' → KS m' → K h') : ∃ ad, va = .pointer ad ∧ storeK P S ad vx h K := by
 unfold sStore at hs
 split at hs
 · rename_i zs xs hz hvc
   obtain ⟨hk, hs2⟩ := cond_spec hs
   clear hs
   have hs := hs2
   clear hs2
   simp only [Bool.and_eq_true] at hk
   have hnx := normV_S (P := P) (S := S) hx
   have hcx := vcells_S hvc hx
   obtain ⟨g1, g2⟩ := shL_single hk.1 hcx
   have sk : ∀ {b o : Nat}, storeS b o vx.cells.toList 0 h K → storeK P S (some ⟨b, o, none⟩) vx h K := fun hh => storeK_of hz hnx hvc hk.2 g1 hh
   split at hs
   · rename_i b o
     cases hb : inL (hr ++ ro) b with
     | true => rw [hb] at hs; exact hs.elim
     | false =>
       rw [hb] at hs
       simp only [cond_false] at hs
       split at hs
       · rename_i cells hm
         split at hs
         · rename_i l hp
           obtain ⟨L, hL, rfl⟩ := ha.r_inv
           obtain ⟨L', ch, h1, h2, h3⟩ := M.get (b := b) (by rw [hm]; simp)
           rw [hL] at h1; cases h1
           rw [hm] at h3
           cases h3 with
           | c hc =>
             rename_i arr S'
             obtain ⟨p1, p2⟩ := putC_S hcx hp hc
             refine ⟨_, rfl, sk ((M.front h2).st0 (l := arr) (Nat.ble_eq_true_of_le (by omega)) (List.all_eq_true.2 g2) fun h' S' => ?_)⟩
             rw [Nat.add_zero] at S'
             exact hK D _ _ h' (.set (.refl D) hb) (M.put hL h2 S' (.refl D) (.c p2)) hs
         · exact hs.elim
       · exact hs.elim
   · rename_i b o w k
     cases hb : inL (hr ++ ro) b with
     | true => rw [hb] at hs; exact hs.elim
     | false =>
       rw [hb] at hs
       simp only [cond_false] at hs
       split at hs
       · rename_i cells y hm
         split at hs
         · rename_i k' w' l r hd
           obtain ⟨hw, hs2⟩ := cond_spec hs
           clear hs
           simp only [Bool.and_eq_true] at hw
           have := Nat.eq_of_beq_eq_true hw.1
           have hk3 : k' = .i64 := by
            have := hw.2
            cases k' <;> first | rfl | simp [kindNo] at this
           subst this hk3
           split at hs2
           · rename_i l' hp
             obtain ⟨L, hL, k0, k1, rfl⟩ := ha.g_inv
             obtain ⟨L', ch, h1, h2, h3⟩ := M.get (b := b) (by rw [hm]; simp)
             rw [hL] at h1; cases h1
             rw [hm] at h3
             cases h3 with
             | c hc =>
               rename_i arr S'
               have hvy : vx.cells.toList = [.int .i64 y] := by
                generalize vx.cells.toList = q at hcx
                cases hcx with
                | cons a n b => cases b; rw [u_int a]
               obtain ⟨pp, ss, rfl, hpp, hrr⟩ := dropC_S hd hc
               cases hrr with
               | cons a n b => exact absurd rfl (n _ _ _)
               | @n _ _ _ vs _ hl b =>
                 have hnew : RpC D ρ ((l.set k.toNat y).map (.int .i64)) [.n .i64 w (l.set k.toNat y)] := by
                  have := RpC.n (D := D) (ρ := ρ) (k := .i64) (w := w) (l := l.set k.toNat y) (vs := []) (xs := []) (by simp [hl]) .nil
                  simpa using this
                 obtain ⟨p1, p2⟩ := putC_S hnew hp hc
                 refine ⟨_, rfl, sk ((M.front h2).st0 (l := pp ++ (l.map (.int .i64) ++ vs)) (Nat.ble_eq_true_of_le (by rw [hvy]; simp [hpp, hl]; omega)) (List.all_eq_true.2 g2) fun h' S' => ?_)⟩
                 rw [Nat.add_zero, hvy] at S'
                 have e : splice (pp ++ (l.map (.int .i64) ++ vs)) (o + k.toNat) [.int .i64 y] = splice (pp ++ (l.map (.int .i64) ++ vs)) o ((l.set k.toNat y).map (.int .i64)) := by
                  apply List.ext_getElem?
                  intro j
                  rw [splice_get _ _ _ _ (by simp [hpp, hl]; omega), splice_get _ _ _ _ (by simp [hpp, hl])]
                  simp only [List.length_map, List.length_set, List.length_cons, List.length_nil, hl]
                  by_cases c1 : j < o
                  · rw [if_pos (by omega), if_pos c1]
                  · rw [if_neg c1]
                    by_cases c2 : j < o + w
                    · rw [if_pos c2, List.getElem?_map, List.getElem?_set]
                      by_cases c3 : j = o + k.toNat
                      · subst c3
                        rw [if_neg (by omega), if_pos (by omega), if_pos (by omega), if_pos (by omega)]
                        simp
                      · have c4 : (pp ++ (l.map (Value.int .i64) ++ vs))[j]? = (l.map (Value.int .i64))[j - o]? := by
                         rw [List.getElem?_append_right (by omega), hpp, List.getElem?_append_left (by simp; omega)]
                        rw [if_neg (show ¬ k.toNat = j - o by omega), c4, List.getElem?_map]
                        by_cases c5 : j < o + k.toNat
                        · rw [if_pos c5]
                        · rw [if_neg c5, if_neg (by omega)]
                    · rw [if_neg c2, if_neg (by omega), if_neg (by omega)]
                 rw [e] at S'
                 exact hK D _ _ h' (.set (.refl D) hb) (M.put hL h2 S' (.refl D) (.c p2)) hs2
           · exact hs2.elim
         · exact hs.elim
       · exact hs.elim
   · rename_i b sz k o
     cases hb : inL (hr ++ ro) b with
     | true => rw [hb] at hs; exact hs.elim
     | false =>
       rw [hb] at hs
       simp only [cond_false] at hs
       -- cells that are one's own, told as such
       have goC : ∀ {E n : Nat} {cells l : List V} {L : Loc} {ch : Chunk} {bb : Nat} {vs ps : List Value}, ρ[b]? = some L → chs[b]? = some ch → L.a = some ⟨bb, 0, none⟩ → L.n = n → ch = [(bb, .cells (vs ++ ps).toArray E (0, 0))] → RpC D ρ vs cells → vs.length = n * sz → (vs ++ ps).length = L.c * sz → n ≤ L.c ∧ L.c ≤ 9223372036854775807 →
        putC xs (k.toNat * sz + o) cells = some l → KS (ms m b (.cw E sz n l)) → ∃ ad, va = .pointer ad ∧ storeK P S ad vx h K := by
        intro E n cells l L ch bb vs ps hL h2 hA hN hch hc hlen h5 h6 hp hk
        obtain ⟨L', p, q, hL', hA', k0, k1, rfl⟩ := ha.e_inv
        rw [hL] at hL'; cases hL'
        rw [hA] at hA'; cases hA'
        subst hch
        obtain ⟨p1, p2⟩ := putC_S hcx hp hc
        refine ⟨_, rfl, sk ((M.front h2).st0 (l := vs ++ ps) (Nat.ble_eq_true_of_le (by rw [List.length_append]; omega)) (List.all_eq_true.2 g2) fun h' S' => ?_)⟩
        rw [Nat.add_zero, Nat.zero_add, splice_app _ _ _ _ p1] at S'
        exact hK D _ _ h' (.set (.refl D) hb) (M.put hL h2 S' (.refl D) (.cw hA hN p2 (by rw [splice_length, hlen]) (by rw [List.length_append, splice_length, ← List.length_append, h5]) h6)) hk
       split at hs
       · rename_i E sz' n cells hm
         obtain ⟨hw, hs2⟩ := cond_spec hs
         have := Nat.eq_of_beq_eq_true hw
         subst this
         split at hs2
         · rename_i l hp
           obtain ⟨L, ch, h1, h2, h3⟩ := M.get (b := b) (by rw [hm]; simp)
           rw [hm] at h3
           cases h3 with
           | cw hA hN hc hlen h5 h6 => exact goC h1 h2 hA hN rfl hc hlen h5 h6 hp hs2
         · exact hs2.elim
       rotate_left
       · exact hs.elim
       rename_i E0 sz0 rows0 hm0
       cases hkb : (vw && keepB m xs) with
       | true =>
         rw [hkb] at hs
         simp only [cond_true] at hs
         obtain ⟨hw, hs2⟩ := cond_spec hs
         have := Nat.eq_of_beq_eq_true hw
         subst this
         split at hs2
         · rename_i l hp
           obtain ⟨L, ch, h1, h2, h3⟩ := M.get (b := b) (by rw [hm0]; simp)
           rw [hm0] at h3
           cases h3 with
           | w own hn =>
             obtain ⟨L', p, q, hL', hA', k0, k1, -⟩ := ha.e_inv
             rw [h1] at hL'; cases hL'
             obtain ⟨rfl, vs, ps, e1, e2, e3, e4, e5⟩ := own.cells (ρ := ρ) hA' (fun e => by subst e; simp at hn; omega)
             exact goC h1 h2 hA' hn e1 e2 e3 e4 e5 hp hs2
         · exact hs2.elim
       | false =>
       rw [hkb] at hs
       simp only [cond_false] at hs
       split at hs
       · rename_i us m1 hu
         obtain ⟨D1, c1, n1, M1, r1⟩ := toUs_S hu M hcx
         obtain ⟨L, p, q, hL, hA, k0, k1, rfl⟩ := ha.e_inv
         split at hs
         · rename_i E sz' rows hm
           obtain ⟨hw, hs2⟩ := cond_spec hs
           clear hs
           have := Nat.eq_of_beq_eq_true hw
           subst this
           obtain ⟨L', ch, h1, h2, h3⟩ := M1.get (b := b) (by rw [hm]; simp)
           rw [hL] at h1; cases h1
           rw [hm] at h3
           cases h3 with
           | w own hn =>
             have hlt : k.toNat < rows.length := by omega
             have hrl : rows[k.toNat].length = sz := by
              generalize L.a = A, L.c = cc at own
              cases own with
              | nil => simp at hlt
              | row b c arr rows v g1 g2 g3 g4 g5 => exact g3 _ (List.getElem_mem _)
             have go : ∀ r : List U, rows[k.toNat]? = some r → o + us.length ≤ sz → KS (ms m1 b (.w E sz (rows.set k.toNat (usp r o us)))) → ∃ ad, Value.pointer (some ⟨p, q + k.toNat * sz + o, none⟩) = .pointer ad ∧ storeK P S ad vx h K := fun r hr hle hk => by
              refine ⟨_, rfl, sk (own.poke (M1.front h2) hA hr r1 hle fun ch' h' own' S' => ?_)⟩
              exact hK D1 _ _ h' (n1.trans (.set (.refl _) hb)) (M1.put hL h2 S' (.refl _) (.w own' (by rw [hn, List.length_set]))) hk
             cases hc : (Nat.beq o 0 && Nat.beq us.length sz) with
             | true =>
               rw [hc] at hs2
               simp only [Bool.and_eq_true] at hc
               have e1 := Nat.eq_of_beq_eq_true hc.1
               have e2 := Nat.eq_of_beq_eq_true hc.2
               subst e1
               exact go _ (List.getElem?_eq_getElem hlt) (by omega) (by rw [usp_all _ _ (by rw [e2, hrl])]; exact hs2)
             | false =>
               rw [hc] at hs2
               obtain ⟨hle, hs3⟩ := cond_spec hs2
               obtain ⟨-, r, hr, hk⟩ := elL_spec hs3
               exact go r hr (Nat.le_of_ble_eq_true hle) hk
         · exact hs.elim
       · exact hs.elim
   · exact hs.elim
 · exact hs.elim
end Go.Proofs.YtaogfopaalancaaDoor
