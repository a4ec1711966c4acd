/- The symbolic engine, part d: operations that leave the memory alone are told rightly. -/
import Derived.Test.YtalglagdgabafaaGreatHk1
import Derived.RangeFuncIn
import Derived.RangeFuncLeaves
import Derived.RangeFuncRecord
import Derived.OrdersIn
import Derived.TacticsIn
import Derived.Test.YtalglagdgabafaaGreatProg
set_option linter.unusedVariables false
namespace Go.Proofs.YtalglagdgabafaaGreat
open _root_.Bool renaming and_eq_true → z17, false_eq_true → z3n, or_eq_true → z34
open _root_.Int renaming natCast_nonneg → z4a, toNat → z16
open _root_.Go.IntKind renaming wrap → z13
open _root_.List renaming all_eq_true → z29, append_assoc → z2m, append_nil → z3a, cons_append → z3r, getElem?_append_left → z2k, getElem?_append_right → z2t, getElem?_eq_getElem → z2c, getElem?_eq_some_iff → z2a, getElem?_map → z2i, getElem?_toArray → z3o, length_cons → z2o, length_map → z2d, length_nil → z36, map → z26, mem_append → z2f, mem_cons → z2e, mem_of_getElem? → z2y, mem_singleton_self → z2x, nil_append → z3f, range → z2b, replicate → z2g
open _root_.Nat renaming add_assoc → z30, beq → z14, ble → z19, eq_of_beq_eq_true → z18, le_of_ble_eq_true → z2w, le_refl → z2r, zero_add → z2l
open _root_.Option renaming map_eq_some_iff → z3k
open _root_.Go.Result renaming andThen_ok → z2h
inductive V where
 | u (x : U)
 | r (b o : Nat)
 | e (b sz : Nat) (k : Int) (o : Nat)
 | g (b o w : Nat) (k : Int)
 | q (c : List U) (o : Nat)
 | w (b : Nat)
 | c (sz : Nat) (rows : List (List U))
 | m (b : Nat)
 | nm
 | nl (s : Nat)
 | f (g : FuncId) (a c : List V)
 | a (l : List V)
 | t (l : List V)
 | n (k : IntKind) (w : Nat) (l : List Int)
 | z
 | y (b : Nat)
 /-- Of an own row's n elements from l on; c: there is room for no more. -/
 | v (b sz l n : Nat) (c : Bool)
 /-- n elements that stand in a block of cells, from o on. -/
 | sl (b o n : Nat)
abbrev V.i (n : Int) : V := .u (.i .i64 n)
abbrev V.l (s : Nat) (x : List (List U)) : V := .u (.l s x)
structure Bd where
 T : TypeId
 E : TypeId
 l : List Nat
abbrev byteC (l : List Nat) : List Value := l.map fun n => Value.int .u8 (.ofNat n)
def Bd.f (x : Bd) (_ : Fz) (b : Nat) (ch : zab) : Prop :=
 (∀ n ∈ x.l, n < 256) ∧ ∃ p, (p = Value.pointer none ∨ p = .pointer (some ⟨b, 0, none⟩)) ∧
  ((x.l = [] ∧ ch = [(b, .cells #[p, .slice none 0 0] x.T (0, 0))]) ∨
   ∃ (g c : Nat) (ps : List Value), x.l.length ≤ c ∧ c ≤ maxLen ∧ (byteC x.l).length + ps.length = c ∧
     ch = [(b, .cells #[p, .slice (some ⟨g, 0, none⟩) x.l.length c] x.T (0, 0)), (g, .cells (byteC x.l ++ ps).toArray x.E (0, 0))])
structure Ob where
 f : Fz → Nat → zab → Prop
 mono : ∀ {D D' : Fz} {b : Nat} {c : zab}, f D b c → Le D D' → f D' b c
 d : Option Bd := none
 hd : ∀ {x : Bd}, d = some x → f = x.f := by intro x h; cases h
def Ob.bd (x : Bd) : Ob where
 f := x.f
 mono := fun h _ => h
 d := some x
 hd := by intro y h; cases h; rfl
theorem Ob.same {I J : Ob} {x : Bd} (hI : I.d = some x) (hJ : J.d = some x) : I = J := by
 have h1 := I.hd hI
 have h2 := J.hd hJ
 obtain ⟨f, mono, d, hd⟩ := I
 obtain ⟨f', mono', d', hd'⟩ := J
 dsimp only at hI hJ h1 h2
 subst hI hJ h1 h2
 rfl
def eqBd (x y : Bd) : Bool := z14 x.T y.T && z14 x.E y.E && List.beq x.l y.l
theorem eqBd_ok {x y : Bd} (h : eqBd x y = true) : x = y := by
 obtain ⟨T, E, l⟩ := x
 obtain ⟨T', E', l'⟩ := y
 simp only [eqBd, z17] at h
 rw [z18 h.1.1, z18 h.1.2, show l = l' from eq_of_beq (show (l == l') = true from h.2)]
def eqOb (I J : Ob) : Bool :=
 match I.d, J.d with
 | some x, some y => eqBd x y
 | _, _ => false
theorem eqOb_ok {I J : Ob} (h : eqOb I J = true) : I = J := by
 unfold eqOb at h
 split at h
 · rename_i x y h1 h2
   have := eqBd_ok h
   subst this
   exact Ob.same h1 h2
 · cases h
inductive AB where
 | c (l : List V)
 | w (E sz : Nat) (rows : List (List U))
 | o (I : Ob)
 | p (kt : KT) (sz : Nat) (ag : Bool) (rows : List (MK × List U))
 | tk
 | x
 /-- n elements of a row of one's own whose cells are not only data. -/
 | cw (E sz n : Nat) (l : List V)
abbrev Mem := List AB
def zc7 : List V → Nat → V
 | [], _ => .z
 | v :: _, 0 => v
 | _ :: l, n + 1 => zc7 l n
def zjs : List V → Nat → V → List V
 | [], _, _ => []
 | _ :: l, 0, v => v :: l
 | x :: l, n + 1, v => x :: zjs l n v
def zso (t : List V) (d : Option Tmp) (v : V) : List V :=
 match d with
 | some i => zjs t i v
 | none => t
def mg : Mem → Nat → AB
 | [], _ => .x
 | a :: _, 0 => a
 | _ :: l, n + 1 => mg l n
def ms : Mem → Nat → AB → Mem
 | [], _, _ => []
 | _ :: l, 0, v => v :: l
 | y :: l, n + 1, v => y :: ms l n v
def ug : List U → Nat → Option U
 | [], _ => none
 | v :: _, 0 => some v
 | _ :: l, n + 1 => ug l n
def zq3 : Value → V
 | .int k n => .u (.i k n)
 | .bool c => .u (.b c)
 | .string s => .u (.s s)
 | .pointer none => .u (.p none)
 | .slice none 0 0 => .nl 0
 | .map none => .nm
 | .func (.func g) ⟨[]⟩ ⟨[]⟩ => .f g [] []
 | _ => .z
def ofV : Value → V
 | .agg cs => .a (cs.toList.map zq3)
 | v => zq3 v
def evS (t : List V) : Operand → V
 | .tmp i => zc7 t i
 | .const v => ofV v
 | .func f => .f f [] []
 | .global _ => .z
def zlv : V → Option Value
 | .u (.i k n) => some (.int k n)
 | .u (.b c) => some (.bool c)
 | .u (.s s) => some (.string s)
 | _ => none
def concL : List V → Option (List Value)
 | [] => some []
 | v :: l => match zlv v, concL l with
   | some x, some xs => some (x :: xs)
   | _, _ => none
def conc : V → Option Value
 | .a l => match concL l with
   | some xs => some (.agg xs.toArray)
   | none => none
 | v => zlv v
def wd : V → Nat
 | .n _ w _ => w
 | _ => 1
def zbu : Nat → List V → Option (List V)
 | 0, l => some l
 | _ + 1, [] => none
 | o + 1, x :: l => cond (z19 (wd x) (o + 1) && !z14 (wd x) 0) (zbu (o + 1 - wd x) l) none
termination_by structural _ l => l
def zf3 : Nat → List V → Option (List V)
 | 0, _ => some []
 | _ + 1, [] => none
 | n + 1, x :: l => cond (z19 (wd x) (n + 1) && !z14 (wd x) 0) (match zf3 (n + 1 - wd x) l with | some r => some (x :: r) | none => none) none
termination_by structural _ l => l
def wds : List V → Nat
 | [] => 0
 | x :: l => wd x + wds l
def znc (new : List V) : Nat → List V → Option (List V)
 | 0, l => match zbu (wds new) l with | some r => some (new ++ r) | none => none
 | _ + 1, [] => none
 | o + 1, x :: l => cond (z19 (wd x) (o + 1) && !z14 (wd x) 0) (match znc new (o + 1 - wd x) l with | some r => some (x :: r) | none => none) none
termination_by structural _ l => l
def znq : Nat → List V → Option (List Int × List V)
 | 0, l => some ([], l)
 | n + 1, .u (.i .i64 x) :: l => match znq n l with | some (xs, r) => some (x :: xs, r) | none => none
 | _ + 1, _ => none
def wl (P : Program) : Nat → TypeId → List Nat
 | 0, _ => [1]
 | d + 1, T => match P.underlying T with
   | some (.struct fs) => fs.toList.flatMap fun f => wl P d f.type
   | some (.array n e) => match P.underlying e with
     | some (.int .i64) => cond (z19 9 n) [n] (z2g n 1)
     | _ => (z2g n (wl P d e)).flatten
   | _ => [1]
def zxp : List Nat → List V → List V
 | [], l => l
 | _ :: _, [] => []
 | w :: ws, x :: l => cond (z14 w 1) (x :: zxp ws l) (match x with
   | .n k w' xs => .n k w' xs :: zxp ws l
   | x => match znq w (x :: l) with
     | some (xs, r) => .n .i64 w xs :: zxp ws r
     | none => x :: l)
def zhh (P : Program) : Nat → TypeId → List Nat
 | 0, _ => [0]
 | d + 1, T => match P.underlying T with
   | some (.struct fs) => fs.toList.flatMap fun f => zhh P d f.type
   | some (.array n e) => (z2g n (zhh P d e)).flatten
   | some (.slice e) => [zaj P e]
   | _ => [0]
def fixN : List Nat → List V → List V
 | s :: ss, .nl _ :: l => .nl s :: fixN ss l
 | ss, .n k w x :: l => .n k w x :: fixN (ss.drop w) l
 | _ :: ss, x :: l => x :: fixN ss l
 | [], l => l
 | _, [] => []
termination_by structural _ l => l
def zid (P : Program) (T : TypeId) (l : List V) : List V := zxp (wl P 9 T) (fixN (zhh P 9 T) l)
def zcn (P : Program) (T : TypeId) : V → V
 | .a l => .a (zid P T l)
 | .nl s' => match zhh P 9 T with
   | s :: _ => .nl s
   | [] => .nl s'
 | v => v
def asD : V → V
 | .nl s => .u (.l s [])
 | v => v
def datL : List V → List V
 | [] => []
 | v :: l => asD v :: datL l
def datV : V → V
 | .a l => .a (datL l)
 | v => asD v
def datA : AB → AB
 | .c l => .c (datL l)
 | a => a
def zsp : Value × Nat → V → Bool
 | (.int k _, _), .u (.i k' _) => z14 (zap k) (zap k')
 | (.bool _, _), .u (.b _) => true
 | (.string _, _), .u (.s _) => true
 | (.slice .., s), .u (.l s' _) => z14 s s'
 | (.slice .., _), .w _ => true
 | (.slice .., s), .c s' _ => z14 s s'
 | (.slice .., s), .nl s' => z14 s s'
 | (.slice .., s), .v _ s' _ _ _ => z14 s s'
 | (.slice .., _), .sl .. => true
 | (.pointer _, _), .u (.p _) => true
 | (.pointer _, _), .r .. => true
 | (.pointer _, _), .e .. => true
 | (.pointer _, _), .g .. => true
 | (.pointer _, _), .q .. => true
 | (.map _, _), .m _ => true
 | (.map _, _), .nm => true
 | (.nilFunc, _), .f .. => true
 | _, _ => false
def isI64 : Value × Nat → Bool
 | (.int .i64 _, _) => true
 | _ => false
def shL : List (Value × Nat) → List V → Bool
 | [], [] => true
 | zs, .n k w _ :: l => z14 (zap k) 3 && z19 w zs.length && (zs.take w).all isI64 && shL (zs.drop w) l
 | z :: zs, v :: l => zsp z v && shL zs l
 | _, _ => false
termination_by structural _ l => l
inductive LayS where
 | one (z : Value × Nat)
 | many (zs : List (Value × Nat))
def zoy (P : Program) (T : TypeId) : Option LayS :=
 match zcv P T, zhh P 9 T with
 | some (.one z), s :: _ => some (.one (z, s))
 | some (.many zs), ss => cond (z14 zs.length ss.length) (some (.many (zs.zip ss))) none
 | _, _ => none
def elL {α : Type} (l : List α) (k : Int) (K : α → Prop) : Prop :=
 match k with
 | .ofNat i => match l[i]? with | some r => K r | none => False
 | .negSucc _ => False
def oP {α : Type} (o : Option α) (K : α → Prop) : Prop :=
 match o with
 | some c => K c
 | none => False
def dI (k : IntKind) (o : Option U) (K : Int → Prop) : Prop :=
 match o with
 | some (.i k' n) => zlg k k' (K n)
 | _ => False
def dB (o : Option U) (K : Bool → Prop) : Prop :=
 match o with
 | some (.b c) => K c
 | _ => False
def dS (o : Option U) (K : ByteArray → Prop) : Prop :=
 match o with
 | some (.s c) => K c
 | _ => False
def dL (s : Nat) (o : Option U) (K : List (List U) → Prop) : Prop :=
 match o with
 | some (.l s' c) => cond (z14 s s') (K c) False
 | _ => False
def dP (o : Option U) (K : Option (List U) → Prop) : Prop :=
 match o with
 | some (.p c) => K c
 | _ => False
def dU (z : Value × Nat) (o : Option U) (K : U → Prop) : Prop :=
 match z.1 with
 | .int k _ => dI k o fun n => K (.i k n)
 | .bool _ => dB o fun c => K (.b c)
 | .string _ => dS o fun c => K (.s c)
 | .slice .. => dL z.2 o fun c => K (.l z.2 c)
 | .pointer _ => dP o fun c => K (.p c)
 | _ => False
def dUs : List (Value × Nat) → List U → Nat → (List U → Prop) → Prop
 | [], _, _, K => K []
 | z :: zs, r, o, K => dU z (ug r o) fun u => dUs zs r (o + 1) fun us => K (u :: us)
def zbo (a b : List (List U)) : Prop := a.length + b.length ≤ 1000000
def zea : Value → V
 | .int k n => .u (.i k n)
 | .bool c => .u (.b c)
 | .string s => .u (.s s)
 | _ => .z
def zva (x : V) (n : Nat) (K : V → Prop) : Prop :=
 match x with
 | .r b o => K (.r b (zye o n))
 | .e b sz k o => K (.e b sz k (zye o n))
 | .q c o => K (.q c (zye o n))
 | .u (.p p) => oP p fun c => K (.q c n)
 | _ => False
def zi7 : V → Bool
 | .r .. => true
 | .e .. => true
 | .g .. => true
 | .q .. => true
 | _ => false
def binS (P : Program) (op : BinOp) (T : TypeId) (x y : V) (K : V → Prop) : Prop :=
 match conc x, conc y with
 | some a, some b => zub P op T a b fun v => K (zea v)
 | _, _ => match y with
   | .u (.p none) => match P.underlying T with
     | some (.pointer _) => (match x with
       | .u (.p p) => zeq op p.isNone fun v => K (zea v)
       | x => cond (zi7 x) (zeq op false fun v => K (zea v)) False)
     | _ => False
   | .nm => match P.underlying T with
     | some (.map ..) => (match x with
       | .m _ => zeq op false fun v => K (zea v)
       | .nm => zeq op true fun v => K (zea v)
       | _ => False)
     | _ => False
   | _ => False
def pickS (c a b : V) (K : V → Prop) : Prop :=
 match c with
 | .u (.b c) => match a, b with
   | .u (.b x), .u (.b y) => K (.u (.b (cond c x y)))
   | _, _ => cond c (K a) (K b)
 | _ => False
def lenS (m : Mem) : V → (Int → Prop) → Prop
 | .u (.s x), K => K x.size
 | .u (.l _ r), K => K r.length
 | .c _ r, K => K r.length
 | .nl _, K => K 0
 | .w b, K => match mg m b with
   | .w _ _ r => K r.length
   | .cw _ _ n _ => K n
   | _ => False
 | .m b, K => match mg m b with
   | .p _ _ _ r => K r.length
   | _ => False
 | .nm, K => K 0
 | .v _ _ _ n _, K => K n
 | .sl _ _ n, K => K n
 | _, _ => False
def okLen : Option TypeDesc → V → Bool
 | some .string, .u (.s _) => true
 | some (.slice _), .u (.l _ _) => true
 | some (.slice _), .c _ _ => true
 | some (.slice _), .nl _ => true
 | some (.slice _), .w _ => true
 | some (.slice _), .v .. => true
 | some (.slice _), .sl .. => true
 | some (.map ..), .m _ => true
 | some (.map ..), .nm => true
 | _, _ => false
def zl5 (t : List V) (x : Option Operand) (d : Int) : Option Int :=
 match x with
 | none => some d
 | some x => match evS t x with
   | .u (.i _ i) => some i
   | _ => none
def zpe : List V → Option (List U)
 | [] => some []
 | .u x :: l => match zpe l with | some us => some (x :: us) | none => none
 | .nl s :: l => match zpe l with | some us => some (.l s [] :: us) | none => none
 | _ :: _ => none
def zt7 : Nat → Nat → List U → List (List U)
 | 0, _, _ => []
 | n + 1, sz, l => l.take sz :: zt7 n sz (l.drop sz)
def z0j (P : Program) (e : TypeId) (us : List V) : V :=
 match zoy P e, us with
 | some (.one _), v :: _ => v
 | _, us => .a us
def zuf (t : List V) : List Operand → Option (List Value)
 | [] => some []
 | x :: l => match zlv (evS t x), zuf t l with
   | some v, some vs => some (v :: vs)
   | _, _ => none
def znv : V → Option (List V)
 | .a l => some l
 | .z => none
 | .n .. => none
 | .t _ => none
 | v => some [v]
def zdc (P : Program) (T : TypeId) (v : V) : Option (List V) := znv (zcn P T v)
def zrw (place : Nat → Option (Nat × Nat)) : List V → List (Nat × V) → Option (List V)
 | l, [] => some l
 | l, (i, v) :: rest => match place i, znv v with
   | some (o, s), some xs => cond (z14 (wds xs) s) (match znc xs o l with | some l' => zrw place l' rest | none => none) none
   | _, _ => none
def za9 (P : Program) (T : TypeId) : Option (List (Value × Nat)) :=
 match zoy P T with
 | some (.one z) => some [z]
 | some (.many zs) => some zs
 | none => none
def zlc (z : Value × Nat) (a : V) (m : Mem) (K : V → Prop) : Prop :=
 match a with
 | .r b o => match mg m b with
   | .c cells => match zbu o cells with
     | some (v :: _) => cond (zsp z v) (K v) False
     | _ => False
   | _ => False
 | .g b o w k => match mg m b with
   | .c cells => match zbu o cells with
     | some (.n k' w' l :: _) => cond (z14 w w' && z14 (zap k') 3 && isI64 z) (elL l k fun n => K (.u (.i .i64 n))) False
     | _ => False
   | _ => False
 | .e b sz k o => match mg m b with
   | .w _ sz' rows => cond (z14 sz sz') (elL rows k fun r => dU z (ug r o) fun u => K (.u u)) False
   | .cw _ sz' _ cells => cond (z14 sz sz') (match zbu (k.toNat * sz + o) cells with
     | some (v :: _) => cond (zsp z v) (K v) False
     | _ => False) False
   | _ => False
 | .q c o => dU z (ug c o) fun u => K (.u u)
 | .u (.p p) => oP p fun c => dU z (ug c 0) fun u => K (.u u)
 | _ => False
def zmo (zs : List (Value × Nat)) (a : V) (m : Mem) (K : V → Prop) : Prop :=
 match a with
 | .r b o => match mg m b with
   | .c cells => match zbu o cells with
     | some l => match zf3 zs.length l with
       | some vs => cond (shL zs vs) (K (.a vs)) False
       | none => False
     | none => False
   | _ => False
 | .e b sz k o => match mg m b with
   | .w _ sz' rows => cond (z14 sz sz') (elL rows k fun r => dUs zs r o fun us => K (.a (us.map .u))) False
   | .cw _ sz' _ cells => cond (z14 sz sz') (match zbu (k.toNat * sz + o) cells with
     | some l => match zf3 zs.length l with
       | some vs => cond (shL zs vs) (K (.a vs)) False
       | none => False
     | none => False) False
   | _ => False
 | .q c o => dUs zs c o fun us => K (.a (us.map .u))
 | .u (.p p) => oP p fun c => dUs zs c 0 fun us => K (.a (us.map .u))
 | _ => False
def zwz (P : Program) (T : TypeId) (a : V) (m : Mem) (K : V → Prop) : Prop :=
 match zoy P T with
 | some (.one z) => zlc z a m K
 | some (.many zs) => zmo zs a m K
 | none => False
def eqI : List Int → List Int → Bool
 | [], [] => true
 | a :: l, b :: r => (a == b) && eqI l r
 | _, _ => false
def zxn : List V → Option (List Int)
 | [] => some []
 | .u (.i .i64 n) :: l => match zxn l with | some r => some (n :: r) | none => none
 | .n .i64 _ xs :: l => match zxn l with | some r => some (xs ++ r) | none => none
 | _ :: _ => none
def arrN (P : Program) (T : TypeId) : Option Nat :=
 match P.underlying T with
 | some (.array ..) => (match znn P T with
   | some (.a n) => some n
   | _ => none)
 | some (.struct fs) => cond (flat P fs.toList 0 || isI P T) none (numT P 6 T)
 | _ => none
def arrE (P : Program) (T : TypeId) (x y : V) : Option Bool :=
 match arrN P T, x, y with
 | some n, .a xs, .a ys => match zxn xs, zxn ys with
   | some a, some b => cond (z14 (wds xs) n && z14 (wds ys) n && !P.eqGuardType P.depth T) (some (eqI a b)) none
   | _, _ => none
 | _, _, _ => none
def idxK (i : Int) (n : Nat) (K : Nat → Prop) : Prop :=
 match i with
 | .ofNat j => cond (z19 (j + 1) n) (K j) False
 | .negSucc _ => False
def ze5 : List (MK × List U) → MK → Option (List U)
 | [], _ => none
 | p :: m, k => if p.1 = k then some p.2 else ze5 m k
def zdf : List (MK × List U) → MK → List U → List (MK × List U)
 | [], k, v => [(k, v)]
 | p :: m, k, v => if p.1 = k then (k, v) :: m else p :: zdf m k v
def zof : List (MK × List U) → MK → List (MK × List U)
 | [], _ => []
 | p :: m, k => if p.1 = k then m else p :: zof m k
def mO {α : Type} (o : Option α) (A : α → Prop) (B : Prop) : Prop :=
 match o with
 | some r => A r
 | none => B
def zxl : KT → KT → Bool
 | .n, .n => true
 | .s, .s => true
 | .a x, .a y => z14 x y
 | _, _ => false
def mkIs : List V → Option (List Int)
 | [] => some []
 | .u (.i .i64 n) :: l => match mkIs l with | some r => some (n :: r) | none => none
 | _ :: _ => none
def mkOf : V → Option MK
 | .u (.i .i64 n) => some (.n n)
 | .u (.s b) => some (.s b)
 | .a l => match mkIs l with | some r => some (.a r) | none => none
 | _ => none
def isAg (P : Program) (T : TypeId) : Bool :=
 match zoy P T with
 | some (.many _) => true
 | _ => false
def mapT (P : Program) (T : TypeId) : Option (KT × List (Value × Nat) × TypeId × V) :=
 match P.underlying T with
 | some (.map K E) => match znn P K, za9 P E, (P.info? E).bind (·.zero) with
   | some kt, some zs, some zv => some (kt, zs, E, zcn P E (ofV zv))
   | _, _, _ => none
 | _ => none
def zrj (ok : Bool) (v : V) (b : Bool) : V := cond ok (.t [v, .u (.b b)]) v
def z04 (P : Program) (T : TypeId) (x k : V) (ok : Bool) (m : Mem) (K : V → Prop) : Prop :=
 match mapT P T, mkOf k with
 | some (kt, zs, E, zv), some k => cond (kt.has k) (match x with
   | .m b => match mg m b with
     | .p kt' sz ag rows => cond (zxl kt kt' && z14 sz zs.length && (ag == isAg P E)) (mO (ze5 rows k) (fun r => dUs zs r 0 fun us => K (zrj ok (z0j P E (us.map .u)) true)) (K (zrj ok zv false))) False
     | _ => False
   | .nm => K (zrj ok zv false)
   | _ => False) False
 | _, _ => False
def nilOf (m : Mem) : V → Option (Bool × Bool)
 | .nl _ => some (true, false)
 | .u (.l _ rows) => some (rows.isEmpty, true)
 | .c _ rows => some (rows.isEmpty, true)
 | .w b => match mg m b with
   | .w _ _ rows => some (rows.isEmpty, true)
   | _ => none
 | .v _ _ _ n _ => some (z14 n 0, true)
 | .sl _ _ n => some (z14 n 0, true)
 | _ => none
def zke (P : Program) (m : Mem) (T : TypeId) (x y : V) : Option (Bool × Bool) :=
 match y with
 | .nl _ => match P.underlying T with
   | some (.slice _) => nilOf m x
   | _ => none
 | _ => none
def nilR (op : BinOp) (r : Bool × Bool) (K : Value → Prop) : Prop :=
 match r with
 | (true, false) => zeq op true K
 | (false, true) => zeq op false K
 | (true, true) => zeq op true K ∧ zeq op false K
 | _ => False
def ltK (c : Bool) (r n : Int) (K : Prop) : Prop := cond c (r = n ∧ K) K
def zwt (P : Program) (t : List V) (e : TypeId) (lo hi mx : Option Operand) (b sz l n : Nat) (c : Bool) (K : V → Prop) : Prop :=
 cond (z14 sz (zaj P e) && !z14 sz 0) (match mx, zl5 t lo 0, zl5 t hi n with
  | none, some l', some r => leK lo.isNone 0 l' (l' ≤ r ∧ r ≤ n ∧ ltK c r n (K (.v b sz (l + l'.toNat) (r.toNat - l'.toNat) c)))
  | some mx, some l', some r => match evS t mx with
    | .u (.i _ k) => cond hi.isSome (leK lo.isNone 0 l' (l' ≤ r ∧ r ≤ n ∧ k = r ∧ K (.v b sz (l + l'.toNat) (r.toNat - l'.toNat) true))) False
    | _ => False
  | _, _, _ => False) False
def srcS (m : Mem) : V → Option (Nat × List (List U))
 | .u (.l s r) => some (s, r)
 | .c s r => some (s, r)
 | .w b => match mg m b with
   | .w _ s r => some (s, r)
   | _ => none
 | .v b sz l n _ => match mg m b with
   | .w _ s r => cond (z14 s sz) (some (s, (r.drop l).take n)) none
   | _ => none
 | _ => none
def byteR : List (List U) → Option (List Int)
 | [] => some []
 | [.i .u8 n] :: l => match byteR l with | some r => some (n :: r) | none => none
 | _ :: _ => none
def zy3 (l : List Int) : ByteArray := l.foldl (fun r n => r.push (UInt8.ofNat n.toNat)) ByteArray.empty
def strR (P : Program) (s d : TypeId) (m : Mem) (v : V) : Option V :=
 match P.underlying s, P.underlying d with
 | some (.slice e), some .string => (match P.underlying e, srcS m v with
   | some (.int .u8), some (1, rows) => (match byteR rows with
     | some ns => some (.u (.s (zy3 ns)))
     | none => none)
   | _, _ => none)
 | _, _ => none
def zom (o : Oper) : Bool := zch o && (match o.op with | .convert .. => false | _ => true)
def zg2 (P : Program) (t : List V) (m : Mem) (o : Oper) (K : V → Prop) : Prop :=
 match o.op with
 | .move x | .assign x => K (evS t x)
 | .pick c a b => pickS (evS t c) (evS t a) (evS t b) K
 | .nilCheck x => match evS t x with
   | .u (.p p) => oP p fun c => K (.q c 0)
   | .f g a c => K (.f g a c)
   | x => cond (zi7 x) (K x) False
 | .binOp op T x y _ => match zke P m T (evS t x) (evS t y) with
   | some r => nilR op r fun v => K (zea v)
   | none => match arrE P T (evS t x) (evS t y) with
     | some c => zeq op c fun v => K (zea v)
     | none => binS P op T (evS t x) (evS t y) K
 | .unOp op _ x => match zlv (evS t x) with
   | some a => XWp P (Op.unary op a) fun v => K (zea v)
   | none => False
 | .convert s d x => match zlv (evS t x) with
   | some a => XWp P (convert s d a) fun v => K (zea v)
   | none => (match strR P s d m (evS t x) with
     | some v => K v
     | none => False)
 | .makeFunc (.func g) a c => K (.f g (a.toList.map (evS t)) (c.toList.map (evS t)))
 | .fieldAddr T x f => match P.underlying T with
   | some (.struct fs) => match fs[f]? with
     | some fd => nz (zaj P fd.type) (zva (evS t x) fd.offset K)
     | none => False
   | _ => False
 | .field T x f => match P.underlying T, evS t x with
   | some (.struct fs), .a l => match fs[f]? with
     | some fd => match zoy P fd.type, zbu fd.offset l with
       | some (.one z), some (v :: _) => cond (zsp z v) (K v) False
       | some (.many zs), some l => match zf3 zs.length l with
         | some vs => K (.a vs)
         | none => False
       | _, _ => False
     | none => False
   | _, _ => False
 | .indexAddr T x i => match evS t i with
   | .u (.i _ i) => match P.underlying T, asD (evS t x) with
     | some (.slice e), .u (.l s rows) => cond (z14 s (zaj P e) && !z14 s 0) (elL rows i fun r => K (.q r 0)) False
     | some (.slice e), .c s rows => cond (z14 s (zaj P e) && !z14 s 0) (elL rows i fun r => K (.q r 0)) False
     | some (.slice e), .w b => match mg m b with
       | .w _ sz rows => cond (z14 sz (zaj P e) && !z14 sz 0) (0 ≤ i ∧ i < rows.length ∧ K (.e b sz i 0)) False
       | .cw _ sz n _ => cond (z14 sz (zaj P e) && !z14 sz 0) (0 ≤ i ∧ i < n ∧ K (.e b sz i 0)) False
       | _ => False
     | some (.slice e), .v b sz l n _ => cond (z14 sz (zaj P e) && !z14 sz 0) (0 ≤ i ∧ i < n ∧ K (.e b sz (l + i) 0)) False
     | some (.slice e), .sl b o n => nz (zaj P e) (idxK i n fun j => K (.r b (o + j * zaj P e)))
     | some (.array n e), .e b sz k o => nz (zaj P e) (idxK i n fun j => K (.e b sz k (o + j * zaj P e)))
     | some (.array n e), .r b o => match mg m b with
       | .c cells => match zbu o cells with
         | some (.n _ w _ :: _) => cond (z14 w n && z14 (zaj P e) 1) (0 ≤ i ∧ i < n ∧ K (.g b o w i)) False
         | some _ => match i with
           | .ofNat j => cond (z19 (j + 1) n) (nz (zaj P e) (K (.r b (o + j * zaj P e)))) False
           | .negSucc _ => False
         | none => False
       | _ => False
     | some (.array n e), .q c o => nz (zaj P e) (idxK i n fun j => K (.q c (o + j * zaj P e)))
     | _, _ => False
   | _ => False
 | .index T x i => match evS t i with
   | .u (.i _ i) => match P.underlying T, evS t x with
     | some .string, .u (.s s) => 0 ≤ i ∧ i < s.size ∧ K (.u (.i .u8 (s.data.getD i.toNat 0).toNat))
     | some (.array n e), .a l => match za9 P e, zpe l with
       | some zs, some us => cond (z14 us.length (n * zs.length)) (elL (zt7 n zs.length us) i fun r => dUs zs r 0 fun vs => K (z0j P e (vs.map .u))) False
       | _, _ => False
     | _, _ => False
   | _ => False
 | .extract x i => match evS t x with
   | .t l => cond (z19 (i + 1) l.length) (K (zc7 l i)) False
   | _ => False
 | .build T ps => match P.info? T, P.underlying T with
   | some inf, some (.struct fs) => match inf.zero with
     | some (.agg cs) => cond (zio P fs.toList) (match zrw (zia P fs.toList) (zid P T (cs.toList.map zq3)) (ps.toList.map fun p => (p.1, evS t p.2)) with
       | some l => K (.a (zid P T l))
       | none => False) False
     | _ => False
   | some inf, some (.array _ e) => match inf.zero with
     | some (.agg cs) => nz (zaj P e) (match zrw (fun i => some (i * zaj P e, zaj P e)) (fixN (zhh P 9 T) (cs.toList.map zq3)) (ps.toList.map fun p => (p.1, evS t p.2)) with
       | some l => K (.a (zid P T l))
       | none => False)
     | _ => False
   | _, _ => False
 | .slice T x lo hi mx => match P.underlying T, asD (evS t x) with
   | some .string, .u (.s s) => match mx, zl5 t lo 0, zl5 t hi s.size with
     | none, some l, some r => leK lo.isNone 0 l (l ≤ r ∧ r ≤ s.size ∧ K (.u (.s (s.extract l.toNat r.toNat))))
     | _, _, _ => False
   | some (.slice e), .u (.l s rows) => cond (z14 s (zaj P e) && !z14 s 0) (match mx, zl5 t lo 0, zl5 t hi rows.length with
     | none, some l, some r => leK lo.isNone 0 l (l ≤ r ∧ r ≤ rows.length ∧ K (.u (.l s ((rows.take r.toNat).drop l.toNat))))
     | some mx, some l, some r => match evS t mx with
       | .u (.i _ k) => cond hi.isSome (leK lo.isNone 0 l (l ≤ r ∧ r ≤ rows.length ∧ k = r ∧ K (.c s ((rows.take r.toNat).drop l.toNat)))) False
       | _ => False
     | _, _, _ => False) False
   | some (.slice e), .c s rows => cond (z14 s (zaj P e) && !z14 s 0) (match mx, zl5 t lo 0, zl5 t hi rows.length with
     | none, some l, some r => leK lo.isNone 0 l (l ≤ r ∧ r ≤ rows.length ∧ r = rows.length ∧ K (.c s ((rows.take r.toNat).drop l.toNat)))
     | _, _, _ => False) False
   | some (.slice e), .w b => match mg m b with
     | .w _ sz rows => zwt P t e lo hi mx b sz 0 rows.length false K
     | _ => False
   | some (.slice e), .v b sz l n c => zwt P t e lo hi mx b sz l n c K
   | _, _ => False
 | .load T a => zwz P T (evS t a) m K
 | .lookup T x k ok => z04 P T (evS t x) (evS t k) ok m K
 | .call c => match c.callee with
   | .builtin .len => match c.args.toList, c.argTypes.toList with
     | [x], [T] => cond (okLen (P.underlying T) (evS t x)) (lenS m (evS t x) fun n => K (.u (.i .i64 n))) False
     | _, _ => False
   | .builtin .min => match zuf t c.args.toList with
     | some vs => XWp P (Builtin.min_ c.argTypes o.type vs.toArray) fun v => K (zea v)
     | none => False
   | .builtin .max => match zuf t c.args.toList with
     | some vs => XWp P (Builtin.max_ c.argTypes o.type vs.toArray) fun v => K (zea v)
     | none => False
   | _ => False
 | _ => False
def inL : List Nat → Nat → Bool
 | [], _ => false
 | x :: l, b => z14 x b || inL l b
def toU (ro : List Nat) (m : Mem) : V → Option (U × Mem)
 | .u x => some (x, m)
 | .c s rows => some (.l s rows, m)
 | .nl s => some (.l s [], m)
 | .q c 0 => some (.p (some c), m)
 | .w b => match mg m b with
   | .w _ sz rows => cond (inL ro b) none (some (.l sz rows, ms m b .x))
   | _ => none
 | _ => none
def toUs (ro : List Nat) : Mem → List V → Option (List U × Mem)
 | m, [] => some ([], m)
 | m, v :: l => match toU ro m v with
   | some (u, m1) => match toUs ro m1 l with
     | some (us, m2) => some (u :: us, m2)
     | none => none
   | none => none
def usp : List U → Nat → List U → List U
 | l, _, [] => l
 | [], _, _ => []
 | _ :: l, 0, v :: vs => v :: usp l 0 vs
 | x :: l, n + 1, v :: vs => x :: usp l n (v :: vs)
def zmu (P : Program) (T : TypeId) (x : V) : Bool :=
 match zoy P T, x with
 | some (.many _), .a _ => true
 | some (.one _), .a _ => false
 | some (.one _), _ => true
 | _, _ => false
def zmp (m : Mem) : List V → Bool
 | [] => false
 | .w j :: l => (match mg m j with
   | .w _ s _ => z14 s 1
   | _ => true) || zmp m l
 | .u _ :: l => zmp m l
 | .c _ _ :: l => zmp m l
 | .nl _ :: l => zmp m l
 | .q _ 0 :: l => zmp m l
 | _ :: _ => true
def zqj (P : Program) (vw : Bool) (ro : List Nat) (T : TypeId) (a x : V) (m : Mem) (K : Mem → Prop) : Prop :=
 match za9 P T, zdc P T x with
 | some zs, some xs => cond (shL zs xs && zmu P T (zcn P T x)) (match a with
   | .r b o => cond (inL ro b) False (match mg m b with
     | .c cells => match znc xs o cells with
       | some l => K (ms m b (.c l))
       | none => False
     | _ => False)
   | .g b o w k => cond (inL ro b) False (match mg m b, xs with
     | .c cells, [.u (.i .i64 y)] => match zbu o cells with
       | some (.n k' w' l :: _) => cond (z14 w w' && z14 (zap k') 3) (match znc [.n .i64 w (l.set k.toNat y)] o cells with
         | some l => K (ms m b (.c l))
         | none => False) False
       | _ => False
     | _, _ => False)
   | .e b sz k o => cond (inL ro b) False (match mg m b with
     | .cw E sz' n cells => cond (z14 sz sz') (match znc xs (k.toNat * sz + o) cells with
       | some l => K (ms m b (.cw E sz n l))
       | none => False) False
     | .w E sz' rows => cond (vw && zmp m xs) (cond (z14 sz sz') (match znc xs (k.toNat * sz + o) (rows.flatten.map V.u) with
      | some l => K (ms m b (.cw E sz rows.length l))
      | none => False) False) (match toUs ro m xs with
      | some (us, m1) => match mg m1 b with
        | .w E sz' rows => cond (z14 sz sz') (cond (z14 o 0 && z14 us.length sz) (K (ms m1 b (.w E sz (rows.set k.toNat us))))
         (cond (z19 (o + us.length) sz) (elL rows k fun r => K (ms m1 b (.w E sz (rows.set k.toNat (usp r o us))))) False)) False
        | _ => False
      | none => False)
     | _ => False)
   | _ => False) False
 | _, _ => False
def isSg : V → Bool
 | .a _ => false
 | .t _ => false
 | .z => false
 | _ => true
def appCS (P : Program) (ro : List Nat) (e : TypeId) (x y : V) (m : Mem) (K : V → Mem → Prop) : Prop :=
 match y with
 | .sl b2 o n => match mg m b2 with
   | .c cells => match zbu o cells with
     | some l => match zf3 (n * zaj P e) l with
       | some new => cond (new.all isSg && !z14 n 0) (match x with
         | .nl _ => cond (z19 (0 + n) 1000000) (K (.w m.length) (m ++ [.cw e (zaj P e) n new])) False
         | .w b => cond (inL ro b) False (match mg m b with
           | .cw e' s k old => cond (z14 e e' && z14 (zaj P e) s && z19 (k + n) 1000000) (K (.w m.length) (ms m b .x ++ [.cw e (zaj P e) (k + n) (old ++ new)])) False
           | _ => False)
         | _ => False) False
       | none => False
     | none => False
   | _ => False
 | _ => False
def appS (P : Program) (ro : List Nat) (T : TypeId) (x y : V) (m : Mem) (K : V → Mem → Prop) : Prop :=
 match P.underlying T with
 | some (.slice e) => cond (zo7 P T e (zaj P e)) (match y with
   | .nl _ => (match x with
     | .nl s => K (.nl s) m
     | .u (.l s r) => K (.u (.l s r)) m
     | .c s r => K (.c s r) m
     | .v b sz l n c => K (.v b sz l n c) m
     | _ => False)
   | y => (match srcS m y with
     | some (s, new) => cond (z14 s (zaj P e)) (match x with
       | .nl _ => zbo [] new ∧ K (.w m.length) (m ++ [.w e s new])
       | .w b => cond (inL ro b) False (match mg m b with
         | .w e' s' rows => cond (z14 e e' && z14 s s') (zbo rows new ∧ K (.w m.length) (ms m b .x ++ [.w e s (rows ++ new)])) False
         | _ => False)
       | .c s' rows => cond (z14 s s') (zbo rows new ∧ match new with
         | _ :: _ => K (.w m.length) (m ++ [.w e s (rows ++ new)])
         | [] => K (.c s rows) m) False
       | .v b s' l n c => cond (z14 s s') (match mg m b with
         | .w e' s2 rows => cond (z14 e e' && z14 s2 s) (match new with
           | [] => K (.v b s' l n c) m
           | _ :: _ => cond c (zbo ((rows.drop l).take n) new ∧ K (.w m.length) (m ++ [.w e s ((rows.drop l).take n ++ new)]))
             (cond (z14 l 0 && !inL ro b) (zbo (rows.take n) new ∧ K (.w m.length) (ms m b .x ++ [.w e s (rows.take n ++ new)])) False)) False
         | _ => False) False
       | _ => False) False
     | none => appCS P ro e x y m K)) False
 | _ => False
def keepT (P : Program) (e : TypeId) : Bool :=
 match P.underlying e with
 | some (.struct fs) => fs.toList.any fun f => (match P.underlying f.type with | some (.slice e) => z14 (zaj P e) 1 | _ => false) && !(f.pkgPath == "")
 | _ => false
def zm5 (P : Program) (ro : List Nat) (e : TypeId) : List (List U) → Mem → List (Nat × V) → Option (List (List U) × Mem)
 | l, m, [] => some (l, m)
 | l, m, (i, v) :: rest => match zdc P e v with
   | some xs => match toUs ro m xs with
     | some (us, m1) => cond (z14 us.length (zaj P e) && z19 (i + 1) l.length) (zm5 P ro e (l.set i us) m1 rest) none
     | none => none
   | none => none
def zrow (P : Program) (e : TypeId) : Option (List U) :=
 match (P.info? e).bind (·.zero) with
 | some z => zpe (fixN (zhh P 9 e) (z.cells.toList.map zq3))
 | none => none
def zcells (P : Program) (e : TypeId) (n : Nat) : Option (List V) :=
 match (P.info? e).bind (·.zero) with
 | some z => cond (z14 z.cells.size (zaj P e)) (some (z2g n (fixN (zhh P 9 e) (z.cells.toList.map zq3))).flatten) none
 | none => none
def zgc (P : Program) (e : TypeId) (n : Nat) (ps : List (Nat × V)) : Option (List V) :=
 match zcells P e n with
 | some l => zrw (fun i => some (i * zaj P e, zaj P e)) l (ps.map fun p => (p.1, zcn P e p.2))
 | none => none
def zr5 (P : Program) (ro : List Nat) (T : TypeId) (x : V) (m : Mem) (K : Mem → Prop) : Prop :=
 match P.underlying T with
 | some (.slice e) => match x with
   | .v b sz l n _ => cond (!inL ro b && z14 sz (zaj P e) && !z14 n 0) (match mg m b, zrow P e with
     | .w E s rows, some zr => cond (z14 s sz && z14 zr.length sz) (K (ms m b (.w E s (rows.take l ++ (z2g n zr ++ rows.drop (l + n)))))) False
     | _, _ => False) False
   | _ => False
 | _ => False
def zla (P : Program) (ro : List Nat) (T : TypeId) (x k v : V) (m : Mem) (K : Mem → Prop) : Prop :=
 match mapT P T, mkOf k, x with
 | some (kt, zs, E, _), some k, .m b => cond (kt.has k && !inL ro b) (match zdc P E v with
   | some xs => match toUs ro m xs with
     | some (us, m1) => match mg m1 b with
       | .p kt' sz ag rows => cond (zxl kt kt' && z14 sz zs.length && (ag == isAg P E) && z14 us.length sz && zmu P E (zcn P E v)) (K (ms m1 b (.p kt' sz ag (zdf rows k us)))) False
       | _ => False
     | none => False
   | none => False) False
 | _, _, _ => False
def zlb (P : Program) (ro : List Nat) (T K' : TypeId) (x k : V) (m : Mem) (K : Mem → Prop) : Prop :=
 match P.underlying T, znn P K', mkOf k, x with
 | some (.map K1 _), some kt, some k, .m b => cond (z14 K1 K' && kt.has k && !inL ro b) (match mg m b with
   | .p kt' sz ag rows => cond (zxl kt kt') (K (ms m b (.p kt' sz ag (zof rows k)))) False
   | _ => False) False
 | some (.map K1 _), some kt, some k, .nm => cond (z14 K1 K' && kt.has k) (K m) False
 | _, _, _, _ => False
def bdL (P : Program) : List Field → Option TypeId
 | [f, g] => (match P.underlying f.type, P.underlying g.type with
   | some (.pointer _), some (.slice e) => (match P.underlying e with
     | some (.int .u8) => some e
     | _ => none)
   | _, _ => none)
 | _ => none
def bdE (P : Program) (T : TypeId) : Option TypeId :=
 match P.underlying T with
 | some (.struct fs) => (match fs.toList with
   | [f] => (match P.underlying f.type with
     | some (.struct gs) => bdL P gs.toList
     | _ => none)
   | l => bdL P l)
 | _ => none
def newA (P : Program) (T : TypeId) (z : Value) : AB :=
 match bdE P T, z.cells.toList with
 | some e, [.pointer none, .slice none 0 0] => .o (.bd ⟨T, e, []⟩)
 | _, _ => .c (match ofV z with | .a l => zid P T l | x => [zcn P T x])
def boxB (T : TypeId) (e : TypeId) (xs : List V) : AB :=
 match xs with
 | [.u (.p none), .nl _] => .o (.bd ⟨T, e, []⟩)
 | xs => .c xs
def boxA (T : TypeId) (o : Option TypeId) (xs : List V) : AB :=
 match o with
 | none => .c xs
 | some e => boxB T e xs
abbrev zb2 := FuncId → List V → Mem → (V → Mem → Prop) → Prop
def effS (P : Program) (vw : Bool) (ro : List Nat) (call : zb2) (t : List V) (m : Mem) (o : Oper) (K : V → Mem → Prop) : Prop :=
 match o.op with
 | .store T a x => zqj P vw ro T (evS t a) (evS t x) m fun m' => K .z m'
 | .box T x => match zdc P T (evS t x) with
   | some xs => K (.r m.length 0) (m ++ [boxA T (bdE P T) xs])
   | none => False
 | .alloc T => match (P.info? T).bind (·.zero) with
   | some z => K (.r m.length 0) (m ++ [newA P T z])
   | none => False
 | .buildSlice T n ps => match P.underlying T with
   | some (.slice e) => match zrow P e with
     | some zr => cond (z19 (n * zaj P e) 16777216 && !z14 (n * zaj P e) 0 && z14 zr.length (zaj P e)) (match cond (vw && keepT P e) none (zm5 P ro e (z2g n zr) m (ps.toList.map fun p => (p.1, evS t p.2))) with
       | some (rows, m1) => K (.w m1.length) (m1 ++ [.w e (zaj P e) rows])
       | none => match zgc P e n (ps.toList.map fun p => (p.1, evS t p.2)) with
         | some l => K (.sl m.length 0 n) (m ++ [.c l])
         | none => False) (cond (z14 n 0 && z14 ps.size 0) (K (.c (zaj P e) []) m) False)
     | none => match zgc P e n (ps.toList.map fun p => (p.1, evS t p.2)) with
      | some l => cond (z19 (n * zaj P e) 16777216 && !z14 (n * zaj P e) 0) (K (.sl m.length 0 n) (m ++ [.c l])) False
      | none => False
   | _ => False
 | .makeSlice T l c => match P.underlying T, evS t l, evS t c with
   | some (.slice e), .u (.i .i64 l), .u (.i .i64 c) => match zrow P e with
     | some zr => cond (zo7 P T e (zaj P e) && z14 zr.length (zaj P e)) (0 ≤ l ∧ l ≤ 1000000 ∧ c = l ∧ K (.w m.length) (m ++ [.w e (zaj P e) (z2g l.toNat zr)])) False
     | none => False
   | _, _, _ => False
 | .call c => match c.callee with
   | .value f => match evS t f with
     | .f g a cc => call g (a ++ c.args.toList.map (evS t) ++ cc) m K
     | _ => False
   | .builtin .append => match c.args.toList, c.argTypes.toList with
     | [x, y], [T, T'] => cond (z14 T T') (appS P ro T (evS t x) (evS t y) m K) False
     | _, _ => False
   | .builtin .delete => match c.args.toList, c.argTypes.toList with
     | [x, y], [T, T'] => zlb P ro T T' (evS t x) (evS t y) m fun m' => K (.t []) m'
     | _, _ => False
   | .builtin .clear => match c.args.toList, c.argTypes.toList with
     | [x], [T] => zr5 P ro T (evS t x) m fun m' => K (.t []) m'
     | _, _ => False
   | _ => False
 | .makeMap T none => match mapT P T with
   | some (kt, zs, E, _) => K (.m m.length) (m ++ [.p kt zs.length (isAg P E) []])
   | none => False
 | .mapUpdate T x k v => zla P ro T (evS t x) (evS t k) (evS t v) m fun m' => K .z m'
 | _ => False
def ziz (x : Int) : List U := [.i .i64 x]
def cutS (P : Program) (ro : List Nat) (t : List V) (m : Mem) (o : Oper) (K : V → Mem → Prop) : Option Prop :=
 match o.op with
 | .slice T x lo hi none => match evS t x with
   | .w b => match P.underlying T, mg m b with
     | some (.slice e), .w E sz rows => match zl5 t lo 0, zl5 t hi rows.length with
       | some l, some r => some (cond (inL ro b || !(z14 sz (zaj P e) && !z14 sz 0)) False (match lo with
         | none => 0 ≤ r ∧ r ≤ rows.length ∧ K (.w m.length) (ms m b .x ++ [.w E sz (rows.take r.toNat)])
         | some _ => 0 ≤ l ∧ l ≤ r ∧ r ≤ rows.length ∧ K (.u (.l sz ((rows.take r.toNat).drop l.toNat))) (ms m b .x)))
       | _, _ => some False
     | _, _ => some False
   | .r b 0 => match lo, hi, mg m b with
     | none, none, .c [.n k w xs] => match P.underlying T with
       | some (.array n e) => some (cond (!inL ro b && z14 n w && z14 (zaj P e) 1 && z14 (zap k) 3) (K (.u (.l 1 (xs.map ziz))) (ms m b .x)) False)
       | some (.pointer A) => match P.underlying A with
         | some (.array n e) => some (cond (!inL ro b && z14 n w && z14 (zaj P e) 1 && z14 (zap k) 3) (K (.u (.l 1 (xs.map ziz))) (ms m b .x)) False)
         | _ => some False
       | _ => some False
     | _, _, _ => some False
   | _ => none
 | _ => none
def ziy (o : Oper) : Bool := zch o || zgz o
def zl0 (s : ByteArray) : List (List U) := s.data.toList.map fun c => [.i .u8 c.toNat]
def strO (P : Program) (o : Oper) : Bool :=
 match o.op with
 | .convert s d _ => (match P.underlying s, P.underlying d with
   | _, some (.slice _) => true
   | some (.slice _), some .string => true
   | _, _ => false)
 | _ => false
def strS (P : Program) (t : List V) (m : Mem) (o : Oper) : Option V :=
 match o.op with
 | .convert s d x => (match P.underlying s, P.underlying d, evS t x with
   | some _, some (.slice e), .u (.s b) => (match P.underlying e with
     | some (.int .u8) => some (.u (.l 1 (zl0 b)))
     | _ => none)
   | some (.slice e), some .string, v => (match P.underlying e, srcS m v with
     | some (.int .u8), some (1, rows) => (match byteR rows with
       | some ns => some (.u (.s (zy3 ns)))
       | none => none)
     | _, _ => none)
   | _, _, _ => none)
 | _ => none
def strP (P : Program) (t : List V) (m : Mem) (o : Oper) (K : V → Mem → Prop) : Option Prop :=
 cond (strO P o) (match strS P t m o with
  | some v => some (K v m)
  | none => some False) none
theorem zj0 {P : Program} {t : List V} {m : Mem} {o : Oper} {K : V → Mem → Prop} (h : strO P o = false) : strP P t m o K = none := by unfold strP; rw [h]; rfl
theorem zy2 {P : Program} {t : List V} {m : Mem} {o : Oper} {K : V → Mem → Prop} {v : V} (h : strO P o = true) (hv : strS P t m o = some v) : strP P t m o K = some (K v m) := by unfold strP; rw [h, hv]; rfl
def opS (P : Program) (vw : Bool) (ro : List Nat) (call : zb2) (t : List V) (m : Mem) (o : Oper) (K : V → Mem → Prop) : Prop :=
 match cond vw (strP P t m o K) (cutS P ro t m o K) with
 | some p => p
 | none => cond (ziy o) (zg2 P t m o fun v => K v m) (effS P vw ro call t m o K)
def zli (ops : List Oper) (o : Oper) (t : List V) (A B : List V → Prop) : Prop :=
 match zcy ops o with
 | none => A t
 | some (none, _) => B t
 | some (some d, want) =>
   match zc7 t d with
   | .u (.b c) => cond c (cond want (A (zjs t d (.u (.b true)))) (B (zjs t d (.u (.b true))))) (cond want (B (zjs t d (.u (.b false)))) (A (zjs t d (.u (.b false)))))
   | .t [] => B t
   | _ => False
mutual
def zae : V → List Nat
 | .r b _ => [b]
 | .e b _ _ _ => [b]
 | .g b _ _ _ => [b]
 | .w b => [b]
 | .m b => [b]
 | .y b => [b]
 | .v b _ _ _ _ => [b]
 | .sl b _ _ => [b]
 | .f _ a c => zam a ++ zam c
 | .a l => zam l
 | .t l => zam l
 | _ => []
def zam : List V → List Nat
 | [] => []
 | v :: l => zae v ++ zam l
end
def za5 : AB → List Nat
 | .c l => zam l
 | .cw _ _ _ l => zam l
 | _ => []
def clo (m : Mem) : Nat → List Nat → List Nat → List Nat
 | 0, _, acc => acc
 | _ + 1, [], acc => acc
 | n + 1, b :: todo, acc => cond (inL acc b) (clo m n todo acc) (clo m n (za5 (mg m b) ++ todo) (acc ++ [b]))
def zl8 (t : List V) (o : Oper) : List Nat := zam (o.op.operands.toList.map (evS t))
def zrp (ops : List Oper) (e : Nat) : List (Nat × List Nat) → List Nat
 | [] => []
 | (i, bs) :: l => cond (zck ops ops.length i e) (zrp ops e l) (bs ++ zrp ops e l)
def zmr (P : Program) (vw : Bool) (ro hr : List Nat) (call : List Nat → zb2) (ops : List Oper) (K : List V → Mem → Prop) : Nat → List Nat → List (Nat × List Nat) → List V → Mem → Prop
 | 0, _, _, t, m => K t m
 | n + 1, done, held, t, m =>
   match zq7 ops done with
   | some i =>
     match ops[i]? with
     | none => False
     | some o => zli ops o t
      (fun t => zg2 P t m o fun v => zmr P vw ro hr call ops K n (i :: done) (cond (zom o) held ((i, zl8 t o) :: held)) (zso t o.dst v) m)
      (fun t => zmr P vw ro hr call ops K n (i :: done) held (zso t o.dst (.t [])) m)
   | none => conjL (zb7 ops done) fun i =>
     match ops[i]? with
     | none => False
     | some o => zli ops o t
      (fun t => effS P vw (zrp ops i held ++ hr ++ ro) (call (zrp ops i held ++ hr)) t m o fun v m' => zmr P vw ro hr call ops K n (i :: done) held (zso t o.dst v) m')
      (fun t => zmr P vw ro hr call ops K n (i :: done) held (zso t o.dst (.t [])) m)
def zbv (t : List V) (o : Oper) : Option (Nat × List V) :=
 match o.op with
 | .call c => match c.callee with
   | .value f => match evS t f with
     | .y b => some (b, c.args.toList.map (evS t))
     | _ => none
   | _ => none
 | _ => none
def zor (P : Program) (vw : Bool) (ro : List Nat) (call : zb2) (yh : Nat → List V → Mem → (V → Mem → Prop) → Prop) (ops : List Oper) (K : List V → Mem → Prop) : List Oper → List V → Mem → Prop
 | [], t, m => K t m
 | o :: rest, t, m => zli ops o t (fun t => match zbv t o with
     | some (b, args) => yh b args m fun v m' => zor P vw ro call yh ops K rest (zso t o.dst v) m'
     | none => opS P vw ro call t m o fun v m' => zor P vw ro call yh ops K rest (zso t o.dst v) m')
  (fun t => zor P vw ro call yh ops K rest (zso t o.dst (.t [])) m)
inductive Pt where
 | i (k : IntKind) | b | s | l (s : Nat) | p | n (w : Nat) | ow (E sz : Nat) | w (j : Nat) | r (j o : Nat) | m (j : Nat) | nm | z | A | X | row (E sz : Nat) | mp (kt : KT) (sz : Nat) (ag : Bool)
inductive It where
 | v (y : V)
 | e (y : AB)
def Pt.Fn (X : Type) : Pt → Type
 | .i _ => Int → X
 | .b => Bool → X
 | .s => ByteArray → X
 | .l _ => List (List U) → X
 | .p => Option (List U) → X
 | .n _ => List Int → X
 | .ow _ _ => List (List U) → X
 | .row _ _ => List (List U) → X
 | .A => Ob → X
 | .mp .. => List (MK × List U) → X
 | _ => X
def Pt.lam {X : Type} : (y : Pt) → (It → X) → y.Fn X
 | .i k, K => fun n => K (.v (.u (.i k n)))
 | .b, K => fun n => K (.v (.u (.b n)))
 | .s, K => fun n => K (.v (.u (.s n)))
 | .l sz, K => fun n => K (.v (.u (.l sz n)))
 | .p, K => fun n => K (.v (.u (.p n)))
 | .n nw, K => fun n => K (.v (.n .i64 nw n))
 | .ow E sz, K => fun n => K (.e (.w E sz n))
 | .row E sz, K => fun n => K (.e (.w E sz n))
 | .A, K => fun n => K (.e (.o n))
 | .mp kt sz ag, K => fun n => K (.e (.p kt sz ag n))
 | .w j, K => K (.v (.w j))
 | .r j o, K => K (.v (.r j o))
 | .m j, K => K (.v (.m j))
 | .nm, K => K (.v .nm)
 | .z, K => K (.v .z)
 | .X, K => K (.e .x)
def Pt.zip {X Y Z : Type} : (y : Pt) → y.Fn X → y.Fn Y → (X → Y → Z) → y.Fn Z
 | .i _, f, g, K => fun n => K (f n) (g n)
 | .b, f, g, K => fun n => K (f n) (g n)
 | .s, f, g, K => fun n => K (f n) (g n)
 | .l _, f, g, K => fun n => K (f n) (g n)
 | .p, f, g, K => fun n => K (f n) (g n)
 | .n _, f, g, K => fun n => K (f n) (g n)
 | .ow _ _, f, g, K => fun n => K (f n) (g n)
 | .row _ _, f, g, K => fun n => K (f n) (g n)
 | .A, f, g, K => fun n => K (f n) (g n)
 | .mp .., f, g, K => fun n => K (f n) (g n)
 | .w _, f, g, K => K f g
 | .r _ _, f, g, K => K f g
 | .m _, f, g, K => K f g
 | .nm, f, g, K => K f g
 | .z, f, g, K => K f g
 | .X, f, g, K => K f g
def Pt.all {X : Type} : (y : Pt) → y.Fn X → (X → Prop) → Prop
 | .i _, f, K => ∀ n : Int, K (f n)
 | .b, f, K => ∀ n : Bool, K (f n)
 | .s, f, K => ∀ n : ByteArray, K (f n)
 | .l _, f, K => ∀ n : List (List U), K (f n)
 | .p, f, K => ∀ n : Option (List U), K (f n)
 | .n _, f, K => ∀ n : List Int, K (f n)
 | .ow _ _, f, K => ∀ n : List (List U), K (f n)
 | .row _ _, f, K => ∀ n : List (List U), K (f n)
 | .A, f, K => ∀ n : Ob, K (f n)
 | .mp .., f, K => ∀ n : List (MK × List U), K (f n)
 | .w _, f, K => K f
 | .r _ _, f, K => K f
 | .m _, f, K => K f
 | .nm, f, K => K f
 | .z, f, K => K f
 | .X, f, K => K f
def PtT (R : Type) : List Pt → Type
 | [] => R
 | y :: l => y.Fn (PtT R l)
def Pt.app {X : Type} : (y : Pt) → y.Fn X → It → Option X
 | .i _, F, .v (.u (.i _ nn)) => some (F nn)
 | .b, F, .v (.u (.b nn)) => some (F nn)
 | .s, F, .v (.u (.s nn)) => some (F nn)
 | .l _, F, .v (.u (.l _ nn)) => some (F nn)
 | .p, F, .v (.u (.p nn)) => some (F nn)
 | .n _, F, .v (.n _ _ nn) => some (F nn)
 | .ow _ _, F, .e (.w _ _ nn) => some (F nn)
 | .row _ _, F, .e (.w _ _ nn) => some (F nn)
 | .A, F, .e (.o nn) => some (F nn)
 | .mp .., F, .e (.p _ _ _ nn) => some (F nn)
 | .w _, F, _ => some F
 | .r _ _, F, _ => some F
 | .m _, F, _ => some F
 | .nm, F, _ => some F
 | .z, F, _ => some F
 | .X, F, _ => some F
 | _, _, _ => none
def apP {R : Type} (d : R) : (ps : List Pt) → PtT R ps → List It → R
 | [], F, _ => F
 | _ :: _, _, [] => d
 | y :: ps, F, i :: is => match y.app F i with
   | some G => apP d ps G is
   | none => d
def pk1 (lim : Nat) (m : Mem) : Pt → V → Option (It × Mem)
 | .i k, .u (.i k' n) => cond (z14 (zap k) (zap k')) (some (.v (.u (.i k n)), m)) none
 | .b, .u (.b c) => some (.v (.u (.b c)), m)
 | .s, .u (.s c) => some (.v (.u (.s c)), m)
 | .l sz, .u (.l sz' c) => cond (z14 sz sz') (some (.v (.u (.l sz c)), m)) none
 | .l sz, .c sz' c => cond (z14 sz sz') (some (.v (.u (.l sz c)), m)) none
 | .l sz, .nl _ => some (.v (.u (.l sz [])), m)
 | .p, .u (.p c) => some (.v (.u (.p c)), m)
 | .p, .q c 0 => some (.v (.u (.p (some c))), m)
 | .n nw, .n k w' c => cond (z14 nw w' && z14 (zap k) 3) (some (.v (.n .i64 nw c), m)) none
 | .ow E sz, .w j => match mg m j with
   | .w E' sz' rows => cond (z14 E E' && z14 sz sz') (some (.e (.w E sz rows), ms m j .x)) none
   | _ => none
 | .ow E sz, .nl _ => some (.e (.w E sz []), m)
 | .w j, .w j' => cond (z14 j j' && z19 (j + 1) lim) (some (.v (.w j), m)) none
 | .r j o, .r j' o' => cond (z14 j j' && z14 o o' && z19 (j + 1) lim) (some (.v (.r j o), m)) none
 | .m j, .m j' => cond (z14 j j' && z19 (j + 1) lim) (some (.v (.m j), m)) none
 | .nm, .nm => some (.v .nm, m)
 | .z, .n .. => none
 | .z, _ => some (.v .z, m)
 | _, _ => none
def pkV (lim : Nat) (m : Mem) : List Pt → List V → Option (List It × Mem)
 | [], [] => some ([], m)
 | y :: ps, x :: xs => match pk1 lim m y x with
   | some (o, m1) => match pkV lim m1 ps xs with
     | some (os, m2) => some (o :: os, m2)
     | none => none
   | none => none
 | _, _ => none
inductive BP where
 | A | X | row (E sz : Nat) | mp (kt : KT) (sz : Nat) (ag : Bool) | c (ps : List Pt)
def BP.ps : BP → List Pt
 | .A => [.A]
 | .X => [.X]
 | .row E sz => [.row E sz]
 | .mp kt sz ag => [.mp kt sz ag]
 | .c ps => ps
def z0c (lim : Nat) (m : Mem) : BP → Nat → Option (List It × Mem)
 | .A, j => match mg m j with
   | .o I => some ([.e (.o I)], ms m j .x)
   | _ => none
 | .X, j => some ([.e .x], ms m j .x)
 | .row E sz, j => match mg m j with
   | .w E' sz' rows => cond (z14 E E' && z14 sz sz') (some ([.e (.w E sz rows)], ms m j .x)) none
   | _ => none
 | .mp kt sz ag, j => match mg m j with
   | .p kt' sz' ag' rows => cond (zxl kt kt' && z14 sz sz' && (ag == ag')) (some ([.e (.p kt sz ag rows)], ms m j .x)) none
   | _ => none
 | .c ps, j => match mg m j with
   | .c l => pkV lim (ms m j .x) ps l
   | _ => none
def pkB (lim : Nat) (m : Mem) : List BP → List Nat → Option (List It × Mem)
 | [], [] => some ([], m)
 | y :: ps, j :: js => match z0c lim m y j with
   | some (o, m1) => match pkB lim m1 ps js with
     | some (os, m2) => some (o ++ os, m2)
     | none => none
   | none => none
 | _, _ => none
inductive RP where
 | one (y : Pt) | agg (ps : List Pt)
def RP.ps : RP → List Pt
 | .one y => [y]
 | .agg ps => ps
def pkR (lim : Nat) (m : Mem) : List RP → List V → Option (List It × Mem)
 | [], [] => some ([], m)
 | .one y :: ps, x :: xs => match pkV lim m [y] [x] with
   | some (o, m1) => match pkR lim m1 ps xs with
     | some (os, m2) => some (o ++ os, m2)
     | none => none
   | none => none
 | .agg qs :: ps, .a l :: xs => match pkV lim m qs l with
   | some (o, m1) => match pkR lim m1 ps xs with
     | some (os, m2) => some (o ++ os, m2)
     | none => none
   | none => none
 | _, _ => none
def mkP {R : Type} : (ps : List Pt) → (List It → R) → PtT R ps
 | [], K => K []
 | y :: ps, K => y.lam fun i => mkP ps fun is => K (i :: is)
def zipP {X Y Z : Type} (F : X → Y → Z) : (ps : List Pt) → PtT X ps → PtT Y ps → PtT Z ps
 | [], a, b => F a b
 | y :: ps, a, b => y.zip a b (zipP F ps)
def allP : (ps : List Pt) → PtT Prop ps → Prop
 | [], a => a
 | y :: ps, a => y.all a (allP ps)
mutual
def zcf (f : Nat → Nat) : V → V
 | .r b o => .r (f b) o
 | .e b s k o => .e (f b) s k o
 | .g b o w k => .g (f b) o w k
 | .w b => .w (f b)
 | .m b => .m (f b)
 | .y b => .y (f b)
 | .v b sz l n c => .v (f b) sz l n c
 | .sl b o n => .sl (f b) o n
 | .f g a c => .f g (zd8 f a) (zd8 f c)
 | .a l => .a (zd8 f l)
 | .t l => .t (zd8 f l)
 | .u x => .u x
 | .q c o => .q c o
 | .c s r => .c s r
 | .nm => .nm
 | .nl s => .nl s
 | .n k w l => .n k w l
 | .z => .z
def zd8 (f : Nat → Nat) : List V → List V
 | [] => []
 | v :: l => zcf f v :: zd8 f l
end
def zob (f : Nat → Nat) : AB → AB
 | .c l => .c (zd8 f l)
 | .cw E s n l => .cw E s n (zd8 f l)
 | a => a
def itV (f : Nat → Nat) (m : Mem) : It → V × Mem
 | .v x => (zcf f x, m)
 | .e ab => (.w m.length, m ++ [ab])
def zf8 (f : Nat → Nat) : Mem → Nat → List It → List V × List It × Mem
 | m, 0, is => ([], is, m)
 | m, _ + 1, [] => ([], [], m)
 | m, n + 1, i :: is => ((itV f m i).1 :: (zf8 f (itV f m i).2 n is).1, (zf8 f (itV f m i).2 n is).2.1, (zf8 f (itV f m i).2 n is).2.2)
def reR (f : Nat → Nat) : Mem → List RP → List It → List V × List It × Mem
 | m, [], is => ([], is, m)
 | m, .one _ :: ps, is => ((zf8 f m 1 is).1 ++ (reR f (zf8 f m 1 is).2.2 ps (zf8 f m 1 is).2.1).1, (reR f (zf8 f m 1 is).2.2 ps (zf8 f m 1 is).2.1).2)
 | m, .agg qs :: ps, is => (.a (zf8 f m qs.length is).1 :: (reR f (zf8 f m qs.length is).2.2 ps (zf8 f m qs.length is).2.1).1, (reR f (zf8 f m qs.length is).2.2 ps (zf8 f m qs.length is).2.1).2)
def reB (f : Nat → Nat) : Mem → List BP → List Nat → List It → Mem
 | m, .c qs :: ps, b :: bs, is => reB f (ms (zf8 f m qs.length is).2.2 b (.c (zf8 f m qs.length is).1)) ps bs (zf8 f m qs.length is).2.1
 | m, _ :: ps, b :: bs, .e ab :: is => reB f (ms m b ab) ps bs is
 | m, _, _, _ => m
structure Hint where
 sl : List (Nat × RP)
 bl : List (Nat × BP)
def Hint.ps (h : Hint) : List Pt := (h.sl.map (·.2)).flatMap RP.ps ++ (h.bl.map (·.2)).flatMap BP.ps
def Hint.pk (h : Hint) (lim : Nat) (t : List V) (m : Mem) : Option (List It × Mem) :=
 match pkR lim m (h.sl.map (·.2)) (h.sl.map fun p => zc7 t p.1) with
 | some (os, m1) => match pkB lim m1 (h.bl.map (·.2)) (h.bl.map (·.1)) with
   | some (os2, m2) => some (os ++ os2, m2)
   | none => none
 | none => none
def tkV : List Pt → List V → List Nat
 | .ow _ _ :: ps, .w j :: xs => j :: tkV ps xs
 | _ :: ps, _ :: xs => tkV ps xs
 | _, _ => []
def tkR : List RP → List V → List Nat
 | .one y :: ps, x :: xs => tkV [y] [x] ++ tkR ps xs
 | .agg qs :: ps, .a l :: xs => tkV qs l ++ tkR ps xs
 | _ :: ps, _ :: xs => tkR ps xs
 | _, _ => []
def tkB (m : Mem) : BP → Nat → List Nat
 | .c ps, j => match mg m j with
   | .c l => j :: tkV ps l
   | _ => [j]
 | _, j => [j]
def Hint.tk (h : Hint) (t : List V) (m : Mem) : List Nat := tkR (h.sl.map (·.2)) (h.sl.map fun p => zc7 t p.1) ++ h.bl.flatMap fun p => tkB m p.2 p.1
def zcw : Mem → List Nat → Mem
 | m, [] => m
 | m, b :: bs => zcw (ms m b .x) bs
def Hint.base (h : Hint) (t : List V) (m : Mem) : Mem := zcw m (h.tk t m)
def zhy : Mem → Mem → Bool
 | [], _ => true
 | .x :: l, _ :: r => zhy l r
 | _ :: _, .x :: _ => false
 | _ :: l, _ :: r => zhy l r
 | _ :: _, [] => false
def Hint.el (h : Hint) (m0 : Mem) (F : PtT Prop h.ps) (t : List V) (m : Mem) : Prop :=
 match h.pk m0.length t m with
 | some (os, m1) => cond (zhy m0 m1) (apP False h.ps F os) False
 | none => False
def z1m (md : List Nat) : List V → Nat → List V
 | [], _ => []
 | v :: l, k => cond (md.contains k) .z v :: z1m md l (k + 1)
def setS : List V → List (Nat × RP) → List V → List V
 | t, p :: ps, v :: vs => setS (zjs t p.1 v) ps vs
 | t, _, _ => t
def zx8 : Mem → Nat → List Nat
 | [], _ => []
 | .x :: l, k => zx8 l (k + 1)
 | _ :: l, k => k :: zx8 l (k + 1)
def Hint.st (h : Hint) (md : List Nat) (t : List V) (m : Mem) (is : List It) : List V × Mem :=
 (setS (z1m md t 0) h.sl (reR id (h.base t m) (h.sl.map (·.2)) is).1, reB id (reR id (h.base t m) (h.sl.map (·.2)) is).2.2 (h.bl.map (·.2)) (h.bl.map (·.1)) (reR id (h.base t m) (h.sl.map (·.2)) is).2.1)
abbrev FW (r : Option Nat) : Fence := { Fence.wide with round := r }
def zbf (o : Oper) : Bool := match o.op with | .defer _ => true | _ => false
def zc0 : Code → List Ex
 | .ret => [.ret]
 | .exit i => [.ext i]
 | .seq x y => zc0 x ++ zc0 y
 | .cond _ x y => zc0 x ++ zc0 y
 | .block i c => (zc0 c).filter fun e => match e with | .ext j => !z14 i j | _ => true
 | .loop c => zc0 c
 | .scope c => zc0 c
 | _ => []
def zwe : Ex → Code
 | .ret => .ret
 | .ext i => .exit i
 | .nrm => .skip
section
variable {P : Program}
theorem zil {r : Option Nat} {n : Nat} {f : FuncId} {args : Array Value} {w : World} {R : Ending → World → Prop} (h : Calls P f args w R) : CallsIn (FW r) n P f args w R :=
 (callsIn_wide (n := n)).2 h
theorem zzm {r : Option Nat} {n : Nat} {row : String} {args : Array Value} {w : World} {R : Value → World → Prop} (h : Rows P row args w R) : RowsIn (FW r) n P row args w R :=
 fun c cs _ => let ⟨v, w', hR, hs⟩ := h c cs; ⟨v, w', hR, stepsIn_wide.2 hs⟩
def Dm (ds : List Deferred) (K : Act → World → Prop) : Act → World → Prop := fun a w => ∃ a0, K a0 w ∧ a = { a0 with defers := a0.defers ++ ds }
def DmQ (ds : List Deferred) (Q : Exit → Act → World → Prop) : Exit → Act → World → Prop := fun e a w => ∃ a0, Q e a0 w ∧ a = { a0 with defers := a0.defers ++ ds }
theorem znb (a : Act) (ds : List Deferred) (d : Option Tmp) (v : Value) : ({ a with defers := a.defers ++ ds } : Act).put d v = { a.put d v with defers := (a.put d v).defers ++ ds } := by
 cases d <;> rfl
theorem op_in {o : Oper} {a : Act} {w : World} {K : Act → World → Prop} {Q : Exit → Act → World → Prop} {r : Option Nat} {n : Nat} {ds : List Deferred} (hd : zbf o = false) (hQ : ¬ LetsOut Q) (h : o.wp P a w K Q) :
 o.wpIn (FW r) n P { a with defers := a.defers ++ ds } w (Dm ds K) (DmQ ds Q) := by
 have hd' : ∀ c, o.op ≠ .defer c := fun c e => by unfold zbf at hd; rw [e] at hd; cases hd
 refine ⟨fun _ _ => trivial, ?_⟩
 rw [Oper.semAt_eq _ _ _ hd']
 have he : ({ a with defers := a.defers ++ ds } : Act).eval = a.eval := by funext x; cases x <;> rfl
 rw [he]
 unfold Oper.wp at h
 generalize hres : (execOp a.eval o).run P w = res at h ⊢
 cases res with
 | ok nx w' =>
   cases nx <;> simp only [Oper.upon, Oper.uponIn] at h ⊢ <;> try exact h.elim
   case value v => exact ⟨_, h, znb _ _ _ _⟩
   case skip => exact ⟨_, h, znb _ _ _ _⟩
   case enter f args =>
    refine ⟨fun hh => (by cases hh), zil (h.mono fun e w'' he => ?_)⟩
    cases e with
    | returned v => exact ⟨_, he, znb _ _ _ _⟩
    | panicked c => exact ⟨_, he, rfl⟩
    | outgrown => exact absurd he hQ
   case row row args => exact ⟨fun hh => (by cases hh), zzm (Rows.mono h fun v w'' he => ⟨_, he, znb _ _ _ _⟩)⟩
   case defer d => exact ⟨_, h, znb { a with defers := d :: a.defers } ds _ _⟩
 | halt x w' =>
   cases x <;> simp only [Oper.upon, Oper.uponIn] at h ⊢ <;> try exact h.elim
   case panic v => exact ⟨_, h, rfl⟩
theorem zsg {ops : Array Oper} {Q : Exit → Act → World → Prop} {r : Option Nat} {n : Nat} {ds : List Deferred} (hd : ∀ o ∈ ops.toList, zbf o = false) (hQ : ¬ LetsOut Q) : ∀ (fuel : Nat) (listed : Array Bool) (a : Act) (w : World),
 wpAny P .any ops Q fuel listed a w → wpAnyIn (FW r) n P .any ops (DmQ ds Q) fuel listed { a with defers := a.defers ++ ds } w
 | 0, listed, a, w, h => ⟨h.1, _, h.2, rfl⟩
 | fuel + 1, listed, a, w, h => by
   refine ⟨fun hr => ⟨_, h.1 hr, rfl⟩, fun i hi => ?_⟩
   have h1 := h.2 i hi
   unfold wpOp at h1
   unfold wpOpIn
   cases ho : ops[i]? with
   | none => rw [ho] at h1; exact zsg hd hQ fuel _ a w h1
   | some o =>
     rw [ho] at h1
     simp only at h1 ⊢
     split
     · rename_i hw
       rw [if_pos hw] at h1
       have hom : o ∈ ops.toList := by simpa using Array.mem_of_getElem? ho
       rcases h1 with h1 | ⟨-, h1⟩
       · refine Oper.wpIn_mono (fun a' w' hh => ?_) (op_in (ds := ds) (hd o hom) hQ h1)
         obtain ⟨a0, h2, rfl⟩ := hh
         exact zsg hd hQ fuel _ a0 w' h2
       · exact absurd h1 hQ
     · rename_i hw
       rw [if_neg hw] at h1
       refine ⟨fun _ _ => trivial, ?_⟩
       rw [znb]
       exact zsg hd hQ fuel _ _ w h1
theorem zvg {Qa Qb : Exit → Act → World → Prop} {r : Option Nat} {n : Nat} (hq : ∀ e a w, Qa e a w → Qb e a w) {o : Oper} {a1 : Act} {w1 : World} {K : Act → World → Prop} (h : o.wpIn (FW r) n P a1 w1 K Qa) : o.wpIn (FW r) n P a1 w1 K Qb := by
 refine ⟨h.1, ?_⟩
 have h4 := h.2
 generalize (Oper.semAt (FW r).round a1.eval o).run P w1 = res at h4 ⊢
 cases res with
 | ok nx w' =>
   cases nx <;> simp only [Oper.uponIn] at h4 ⊢ <;> try exact h4
   case enter f args =>
    refine ⟨h4.1, h4.2.mono fun e w'' he => ?_⟩
    cases e with
    | returned v => exact he
    | panicked c => exact hq _ _ _ he
    | outgrown => obtain ⟨a2, w2, h⟩ := he; exact ⟨a2, w2, hq _ _ _ h⟩
   case round l f tmps assign body =>
    refine ⟨h4.1, RoundIn.mono h4.2 fun e w'' he => ?_⟩
    cases e with
    | returned v => exact he
    | panicked c => exact hq _ _ _ he
    | outgrown => obtain ⟨a2, w2, h⟩ := he; exact ⟨a2, w2, hq _ _ _ h⟩
 | halt x w' =>
   cases x <;> simp only [Oper.uponIn] at h4 ⊢ <;> try exact h4
   case panic v => exact hq _ _ _ h4
theorem anyq_mono {Qa Qb : Exit → Act → World → Prop} {r : Option Nat} {n : Nat} {ops : Array Oper} (hq : ∀ e a w, Qa e a w → Qb e a w) : ∀ (fuel : Nat) (listed : Array Bool) (a1 : Act) (w1 : World), wpAnyIn (FW r) n P .any ops Qa fuel listed a1 w1 → wpAnyIn (FW r) n P .any ops Qb fuel listed a1 w1 := by
 intro fuel
 induction fuel with
 | zero => intro listed a1 w1 h; exact ⟨h.1, hq _ _ _ h.2⟩
 | succ fuel ih =>
   intro listed a1 w1 h
   refine ⟨fun hr => hq _ _ _ (h.1 hr), fun i hi => ?_⟩
   have := h.2 i hi
   unfold wpOpIn at this ⊢
   split
   · rename_i ho; rw [ho] at this; exact ih _ _ _ this
   · rename_i o ho
     rw [ho] at this
     simp only at this
     split
     · rename_i hw; rw [if_pos hw] at this; exact Oper.wpIn_mono (fun a' w' hh => ih _ _ _ hh) (zvg hq this)
     · rename_i hw; rw [if_neg hw] at this; exact ⟨this.1, ih _ _ _ this.2⟩
theorem zvi {o : Oper} {a : Act} {w : World} {K : Act → World → Prop} {Q : Exit → Act → World → Prop} {r : Option Nat} {n : Nat} (hd : zbf o = false) (h : o.wp P a w K (fun _ _ _ => False)) : o.wpIn (FW r) n P a w K Q := by
 have h2 := op_in (r := r) (n := n) (ds := []) hd (fun ⟨_, _, h⟩ => h) h
 rw [z3a] at h2
 exact Oper.wpIn_mono (fun a' w' hh => by
  obtain ⟨a0, hK, rfl⟩ := hh
  rw [z3a]; exact hK) (zvg (fun e a w hq => by obtain ⟨_, h, _⟩ := hq; exact h.elim) h2)
def mark (D : Nat) : Deferred := { target := .collected D, args := #[] }
theorem zbt {b : Frame} {a : Act} {k : List Item} {cs : List Frame} {w : World} {c : Code} : step P (lone (b.atR a (.code (.scope c) :: k)) cs w) = .next (lone (b.atR a (.code c :: .inScope c :: k)) cs w) :=
 step_lone_go (by simp [stepG, stepG.exec, Frame.atR])
theorem zl7 {b : Frame} {a : Act} {k : List Item} {cs : List Frame} {w : World} {c : Code} : step P (lone (b.atR a (.inScope c :: k)) cs w) = .next (lone (b.atR a k) cs w) :=
 step_lone_go (by simp [stepG, stepG.exec, Frame.atR])
theorem zmy {F : Fence} {n : Nat} {c : Code} {Q : Exit → Act → World → Prop} {a : Act} {w : World} (h : c.wpIn F n P (Exit.noGoto Q) a w) : (Code.scope c).wpIn F n P Q a w := by
 intro b k cs hro hb hr
 have h0 : (lone (b.atR a (.code (.scope c) :: k)) cs w).fenced P F := fenced_calm hb hr rfl
 obtain ⟨e, a₁, w₁, hq, harr⟩ := h b (.inScope c :: k) cs hro hb hr
 cases e with
 | normal => exact ⟨.normal, a₁, w₁, hq, .head h0 zbt (StepsIn.trans harr (.one (fenced_calm hb hr rfl) zl7))⟩
 | exit id' =>
   have hx : exitTo id' (.inScope c :: k) = exitTo id' k := by simp [exitTo]
   exact ⟨.exit id', a₁, w₁, hq, fun k' hk => .head h0 zbt (harr.1 k' (by rw [hx]; exact hk)),
    fun hr' hk => let ⟨k₁, h1, h2⟩ := harr.2 hr' (by rw [hx]; exact hk); ⟨k₁, h1, .head h0 zbt h2⟩⟩
 | goto l => exact hq.elim
 | ret => exact ⟨_, a₁, w₁, hq, .of_steps (.one h0 zbt) harr⟩
 | panic ch => exact ⟨_, a₁, w₁, hq, .of_steps (.one h0 zbt) harr⟩
 | outgrown => exact ⟨_, a₁, w₁, hq, .of_steps (.one h0 zbt) harr⟩
theorem zvq : ∀ (l : List Value) (n : Nat) (v : Value), zmn l n v = l.set n v
 | [], _, _ => rfl
 | _ :: _, 0, _ => rfl
 | x :: l, n + 1, v => by simp only [zmn, List.set_cons_succ, zvq l n v]
theorem zgd : ∀ (ps : List Tmp) (as' : List Value) (t : Array Value), ((ps.zip as').foldl (fun (tmps : Array Value) (x : Tmp × Value) => tmps.setIfInBounds x.1 x.2) t).toList = ze1 t.toList ps as'
 | [], as', t => by cases as' <;> rfl
 | p :: ps, [], t => by simp [ze1]
 | p :: ps, v :: as', t => by
   rw [List.zip_cons_cons, List.foldl_cons, zgd ps as']
   simp only [ze1, zvq, Array.toList_setIfInBounds]
theorem zt2 (c : Code) : Ex.nrm ∉ zc0 c := by
 induction c <;> simp_all [zc0]
theorem Same.put (w : World) (r : Nat) (o : Obj) : Same w (w.putObj r o) := ⟨rfl, rfl, rfl, z2r _⟩
theorem Same.alloc (w : World) (o : Obj) : Same w (w.alloc o) := ⟨rfl, rfl, rfl, z2r _⟩
end
def YRun (P : Program) (l : Nat) (args : List Value) (h : zac) (R : Value → zac → Prop) : Prop :=
 ∀ w : World, w.heap = h → ∃ fn tmps assign body, (Instr.yield l args.toArray).run P w = .ok (.round l fn tmps assign body) w ∧
   RoundIn (FW none) 0 P l fn tmps assign body w fun e w' => ∃ v, e = .returned v ∧ R v w'.heap ∧ Same w w'
def CallVI (P : Program) (f : Value) (args : List Value) (h : zac) (R : Value → zac → Prop) : Prop :=
 match f with
 | .func (.func g) first captured => Run P g (first.toList ++ args ++ captured.toList) h R
 | .func (.yield l) first _ => YRun P l (first.toList ++ args) h R
 | _ => False
def opKI (P : Program) (H : Hn) (t : List Value) (o : Oper) (h : zac) (K : Value → zac → Prop) : Prop :=
 match o.op with
 | .call c =>
   match c.callee with
   | .value f => CallVI P (ev t f) (c.args.toList.map (ev t)) h (zqb P o.type K)
   | _ => opK P H t o h K
 | _ => opK P H t o h K
def zuq (P : Program) (H : Hn) (ops : List Oper) (K : List Value → zac → Prop) : List Oper → List Value → zac → Prop
 | [], t, h => K t h
 | o :: rest, t, h => zff ops o t (fun t => opKI P H t o h fun v h' => zuq P H ops K rest (ztv t o.dst v) h') (fun t => zuq P H ops K rest (ztv t o.dst undef) h)
def Sh.All (x : Sh) (f : Value → Prop) : Prop :=
 match x with
 | .i k => ∀ n : Int, f (.int k n)
 | .b => ∀ c : Bool, f (.bool c)
 | .s => ∀ s : ByteArray, f (.string s)
 | .p => ∀ a : Option Addr, f (.pointer a)
 | .sl => ∀ (a : Option Addr) (n c : Nat), f (.slice a n c)
 | .m => ∀ r : Option Nat, f (.map r)
 | .v => ∀ v : Value, f v
def alL : List Value → (List Value → Prop) → Prop
 | [], f => f []
 | z :: l, f => (shOf z).All fun v => alL l fun vs => f (v :: vs)
def alE (z : Value) (f : Value → Prop) : Prop :=
 match z with
 | .agg cs => alL cs.toList fun vs => f (.agg vs.toArray)
 | z => (shOf z).All f
def alArgs (P : Program) (rs : List (Nat × TypeId)) : List Tmp → (List Value → Prop) → Prop
 | [], f => f []
 | p :: ps, f => alE (zp1 P (rsOf rs (.tmp p))) fun v => alArgs P rs ps fun vs => f (v :: vs)
def atO (h : zac) (l : Nat) (o : Obj) : Prop := h[l]? = some o
def zx7 (h : zac) (l : Nat) (o : Obj) (K : zac → Prop) : Prop := K (h.setIfInBounds l o)
abbrev zmw := Ex → List Value → List Nat → zac → Prop
def anyOf (f : Ex → Prop) : List Ex → Prop
 | [] => False
 | e :: l => f e ∨ anyOf f l
def thenI (K : List Value → List Nat → zac → Prop) (Q : zmw) : zmw
 | .nrm, t, ds, h => K t ds h
 | .ext i, t, ds, h => Q (.ext i) t ds h
 | .ret, t, ds, h => Q .ret t ds h
def blockI (id : Nat) (Q : zmw) : zmw
 | .nrm, t, ds, h => Q .nrm t ds h
 | .ext j, t, ds, h => cond (z14 j id) (Q .nrm t ds h) (Q (.ext j) t ds h)
 | .ret, t, ds, h => Q .ret t ds h
def vcI (P : Program) (H : Hn) : Bool → Code → zmw → List Value → List Nat → zac → Prop
 | _, .skip, Q, t, ds, h => Q .nrm t ds h
 | _, .region _ ops d, Q, t, ds, h =>
   cond d (cond (zhr ops.toList ops.toList.length [] && Region.noSelect ops.toList.toArray && ops.toList.all fun o => !zbf o) (zf6 P H ops.toList (fun t h => Q .nrm t ds h) ops.toList.length [] [] t h) False)
    (cond (ops.toList.all fun o => !zbf o) (zuq P H ops.toList (fun t h => Q .nrm t ds h) ops.toList t h) False)
 | r, .seq x y, Q, t, ds, h => vcI P H r x (thenI (vcI P H r y Q) Q) t ds h
 | r, .cond c x y, Q, t, ds, h => bcase (ev t c) (vcI P H r x Q t ds h) (vcI P H r y Q t ds h)
 | r, .block id c, Q, t, ds, h => vcI P H r c (blockI id Q) t ds h
 | r, .loop c, Q, t, ds, h =>
   ∃ (I : zuk (zm3 (zbj H.hs (zaf c)))) (m : MeaT (zm3 (zbj H.hs (zaf c)))),
     app _ I (zsw t (zbj H.hs (zaf c))) h ∧
     ∀ (g : Nat → Value) (h' : zac), allI _ I h' fun vs =>
       vcI P H r c (thenI (fun t2 ds2 h2 => ds2 = ds ∧ app _ I (zsw t2 (zbj H.hs (zaf c))) h2 ∧ zx1 _ m (zsw t2 (zbj H.hs (zaf c))) h2 < zx1 _ m vs h') Q)
        (zgl (zaw c) t (zbj H.hs (zaf c)) g vs) ds h'
 | _, .exit id, Q, t, ds, h => Q (.ext id) t ds h
 | _, .ret, Q, t, ds, h => Q .ret t ds h
 | r, .scope c, Q, t, ds, h => vcI P H r c Q t ds h
 | _, .label _, Q, t, ds, h => Q .nrm t ds h
 | false, .rangeFunc g ps assign body, Q, t, ds, h =>
   ∀ (oR oB : Obj) (oD : Ex → Obj), zkg h (.deferred (some [])) fun D h1 => zkg h1 oR fun l h2 =>
     (alArgs P H.rs ps.toList fun as' => ∀ (h3 : zac) (R : Value → zac → Prop), atO h3 l oR →
      vcI P H true assign (thenI (fun t4 ds4 h4 => ds4 = [] ∧ atO h4 l oR ∧ zx7 h4 l oB fun h5 =>
       vcI P H true body (fun e _ _ h6 => atO h6 l oB ∧ match e with
        | .nrm => zx7 h6 l oR (R (.bool true))
        | e => zx7 h6 l (oD e) (R (.bool false))) t4 [] h5) fun _ _ _ _ => False) (ze1 t ps.toList as') [] h3 → YRun P l as' h3 R) →
     zsn P (ev t g) [.func (.yield l) #[] #[]] h2 fun _ h7 =>
      (atO h7 l oR ∧ ∀ oX : Obj, zx7 h7 l oX fun h8 => Q .nrm t (D :: ds) h8) ∨ anyOf (fun e => atO h7 l (oD e) ∧ ∀ oX : Obj, zx7 h7 l oX fun h8 => Q e t (D :: ds) h8) (zc0 body)
 | _, _, _, _, _, _ => False
def zqe : List Nat → zac → (zac → Prop) → Prop
 | [], h, K => K h
 | D :: ds, h, K => atO h D (.deferred (some [])) ∧ zx7 h D (.deferred none) fun h' => zqe ds h' K
def zyo (P : Program) (H : Hn) (fn : Func) (args : List Value) (h : zac) (R : Value → zac → Prop) : Prop :=
 match fn.body with
 | none => False
 | some c => vcI P H false c (fun e t ds h => match e with | .ext _ => False | .nrm => zqe ds h fun h => zzt P fn.results.toList t h fun vs => R (one vs) h | .ret => zqe ds h fun h => zzt P fn.results.toList t h fun vs => R (one vs) h)
  (args ++ z2g (fn.ntmps - args.length) undef) [] h
section
variable {P : Program}
theorem z0i {H : Hn} {o : Oper} {h : zac} {K : Value → zac → Prop} {a : Act} (hh : opKI P H a.tmps.toList o h K) (hd : zbf o = false) {w : World} (hw : w.heap = h) {r : Option Nat} {n : Nat}
 {next : Act → World → Prop} {Q : Exit → Act → World → Prop} (hn : ∀ v w', K v w'.heap → Same w w' → next (a.put o.dst v) w') : o.wpIn (FW r) n P a w next Q := by
 have hd' : ∀ c, o.op ≠ .defer c := fun c e => by unfold zbf at hd; rw [e] at hd; cases hd
 have old : opK P H a.tmps.toList o h K → o.wpIn (FW r) n P a w next Q := fun hk => by
  have h1 : o.wp P a w (fun a' w' => ∃ v, K v w'.heap ∧ Same w w' ∧ a' = a.put o.dst v) (fun _ _ _ => False) := zvh hk hw fun v w' hK hS => ⟨v, hK, hS, rfl⟩
  have h2 := op_in (r := r) (n := n) (ds := []) hd (fun ⟨_, _, h⟩ => h) h1
  rw [z3a] at h2
  have h3 : o.wpIn (FW r) n P a w next (DmQ [] fun _ _ _ => False) := Oper.wpIn_mono (fun a' w' hh => by
   obtain ⟨a0, ⟨v, hK, hS, rfl⟩, rfl⟩ := hh
   rw [z3a]; exact hn v w' hK hS) h2
  refine ⟨h3.1, ?_⟩
  have h4 := h3.2
  generalize (Oper.semAt (FW r).round a.eval o).run P w = res at h4 ⊢
  have hno : ∀ e a w, ¬ (DmQ [] fun _ _ _ => False : Exit → Act → World → Prop) e a w := fun e a w ⟨_, h, _⟩ => h
  cases res with
  | ok nx w' =>
    cases nx <;> simp only [Oper.uponIn] at h4 ⊢ <;> try exact h4
    case enter f args =>
     refine ⟨h4.1, h4.2.mono fun e w'' he => ?_⟩
     cases e with
     | returned v => exact he
     | panicked c => exact absurd he (hno _ _ _)
     | outgrown => obtain ⟨_, _, h⟩ := he; exact absurd h (hno _ _ _)
    case round l f tmps assign body =>
     refine ⟨h4.1, RoundIn.mono h4.2 fun e w'' he => ?_⟩
     cases e with
     | returned v => exact he
     | panicked c => exact absurd he (hno _ _ _)
     | outgrown => obtain ⟨_, _, h⟩ := he; exact absurd h (hno _ _ _)
  | halt x w' =>
    cases x <;> simp only [Oper.uponIn] at h4 ⊢ <;> try exact h4
    case panic v => exact absurd h4 (hno _ _ _)
 unfold opKI at hh
 split at hh
 · rename_i c hc
   split at hh
   · rename_i f hf
     unfold CallVI at hh
     split at hh
     · rename_i g first captured hv
       refine old ?_
       have h1 : zrx P H a.tmps.toList o h K := by
        obtain ⟨dst, op, ty, pos, after, guard⟩ := o
        simp only at hc
        subst hc
        obtain ⟨ce, args, ats⟩ := c
        simp only at hf
        subst hf
        simp only [zrx]
        unfold zsn
        rw [hv]
        exact hh
       unfold opK
       have e1 : zch o = false := by unfold zch; rw [hc]; obtain ⟨ce, args, ats⟩ := c; simp only at hf; subst hf; rfl
       have e2 : zgz o = false := by unfold zgz; rw [hc]; obtain ⟨ce, args, ats⟩ := c; simp only at hf; subst hf; rfl
       rw [e1, e2]; exact h1
     · rename_i l first captured hv
       refine ⟨fun _ _ => trivial, ?_⟩
       rw [Oper.semAt_eq _ _ _ hd', zau]
       obtain ⟨fn, tmps, assign, body, hy, hR⟩ := hh w hw
       have he : (execOp (ev a.tmps.toList) o).run P w = .ok (.round l fn tmps assign body) w := by
        unfold execOp
        rw [hc]
        simp only [resolve, hf, hv, Deferred.ofValue, Sem.run_bind, Sem.run_pure, z2h, invoke]
        have : (first ++ c.args.map (ev a.tmps.toList)) = (first.toList ++ c.args.toList.map (ev a.tmps.toList)).toArray := by apply Array.ext'; simp
        rw [this]; exact hy
       rw [he]
       refine ⟨fun hx => (by cases hx), RoundIn.mono (R := fun e w' => ∃ v, e = .returned v ∧ zqb P o.type K v w'.heap ∧ Same w w') ⟨hR.1, fun c cs hr => hR.2 c cs (room_wide _)⟩ fun e w' he => ?_⟩
       obtain ⟨v, rfl, hK, hS⟩ := he
       refine hn v w' ?_ hS
       exact zdp hK
     · exact hh.elim
   · exact old hh
 · exact old hh
def UpI (md : List Nat) (t : List Value) (w : World) (K : List Value → List Nat → zac → Prop) (a' : Act) (w' : World) : Prop :=
 ∃ ds, a'.defers = ds.map mark ∧ Same w w' ∧ Agr md t a'.tmps.toList ∧ K a'.tmps.toList ds w'.heap
def zuj (Q : zmw) (md : List Nat) (t : List Value) (w : World) : Exit → Act → World → Prop
 | .normal, a', w' => UpI md t w (Q .nrm) a' w'
 | .exit id, a', w' => UpI md t w (Q (.ext id)) a' w'
 | .ret, a', w' => UpI md t w (Q .ret) a' w'
 | _, _, _ => False
theorem zib {H : Hn} {ops : List Oper} {K : List Value → zac → Prop} {md : List Nat} {Q : Exit → Act → World → Prop} {r : Option Nat} {n : Nat} : ∀ (l : List Oper) (a : Act) (w : World),
 zuq P H ops K l a.tmps.toList w.heap → (∀ o ∈ l, zbf o = false) → (∀ o ∈ l, ∀ d, o.dst = some d → d ∈ md) →
 (∀ a' w', a'.defers = a.defers → Same w w' → Agr md a.tmps.toList a'.tmps.toList → K a'.tmps.toList w'.heap → Q .normal a' w') → wpListIn (FW r) n P ops.toArray Q l a w
 | [], a, w, hh, _, _, hQ => hQ a w rfl (.refl w) (.refl _ _) hh
 | o :: l, a, w, hh, hd, hm, hQ => by
   have hput : ∀ v, Agr md a.tmps.toList (a.put o.dst v).tmps.toList := fun v => by rw [zbb]; exact .put v fun i hi => hm o (by simp) i hi
   unfold wpListIn
   rcases zcb hh with ⟨hw, h1⟩ | ⟨hw, h1⟩
   · rw [if_pos hw]
     refine z0i h1 (hd o (by simp)) rfl (fun v w' hK hS => ?_)
     refine zib l (a.put o.dst v) w' (by rw [zbb]; exact hK) (fun o' ho' => hd o' (by simp [ho'])) (fun o' ho' => hm o' (by simp [ho'])) fun a' w'' h2 h3 h4 h5 => ?_
     exact hQ a' w'' (by rw [h2, zah]) (hS.trans h3) ((hput v).trans h4) h5
   · rw [if_neg (by rw [hw]; simp)]
     refine ⟨fun _ _ => trivial, ?_⟩
     refine zib l (a.put o.dst undef) w (by rw [zbb]; exact h1) (fun o' ho' => hd o' (by simp [ho'])) (fun o' ho' => hm o' (by simp [ho'])) fun a' w'' h2 h3 h4 h5 => ?_
     exact hQ a' w'' (by rw [h2, zah]) h3 ((hput undef).trans h4) h5
theorem UpI.mono {md md' : List Nat} {t : List Value} {w : World} {K K' : List Value → List Nat → zac → Prop} {a' : Act} {w' : World} (h : UpI md t w K a' w') (hm : ∀ i ∈ md, i ∈ md') (hK : ∀ t ds h, K t ds h → K' t ds h) : UpI md' t w K' a' w' :=
 let ⟨ds, h1, h2, h3, h4⟩ := h; ⟨ds, h1, h2, h3.mono hm, hK _ _ _ h4⟩
theorem UpI.after {md md' mD : List Nat} {t : List Value} {w w1 : World} {a1 : Act} {K K' : List Value → List Nat → zac → Prop} {a' : Act} {w' : World} (h1 : UpI md t w K a1 w1) (h2 : UpI md' a1.tmps.toList w1 K' a' w')
 (hm : ∀ i ∈ md, i ∈ mD) (hm' : ∀ i ∈ md', i ∈ mD) : UpI mD t w K' a' w' :=
 let ⟨_, _, g2, g3, _⟩ := h1; let ⟨ds, k1, k2, k3, k4⟩ := h2; ⟨ds, k1, g2.trans k2, (g3.mono hm).trans (k3.mono hm'), k4⟩
theorem zp6 (hmix : P.follows .mixedOrders = true) {H : Hn} {r : Option Nat}
 (hrange : ∀ g ps assign body (Q : zmw) (a : Act) (w : World) (ds : List Nat), vcI P H r.isSome (.rangeFunc g ps assign body) Q a.tmps.toList ds w.heap → a.defers = ds.map mark → ∀ n, (Code.rangeFunc g ps assign body).wpIn (FW r) n P (zuj Q [] a.tmps.toList w) a w) :
 ∀ (c : Code) (Q : zmw) (a : Act) (w : World) (ds : List Nat), vcI P H r.isSome c Q a.tmps.toList ds w.heap → a.defers = ds.map mark → ∀ n, c.wpIn (FW r) n P (zuj Q (zaw c) a.tmps.toList w) a w := by
 intro c
 induction c with
 | skip => intro Q a w ds hh hd n; simp only [vcI] at hh; exact wpIn_skip ⟨ds, hd, .refl w, .refl _ _, hh⟩
 | region id ops d =>
   intro Q a w ds hh hd n
   simp only [vcI] at hh
   have hm : ∀ o ∈ ops.toList, ∀ d', o.dst = some d' → d' ∈ zaw (.region id ops d) := fun o ho d' hd' => by
    simp only [zaw, z2f]
    exact .inl (List.mem_filterMap.2 ⟨o, ho, hd'⟩)
   cases d with
   | false =>
     obtain ⟨hnd, hh⟩ := zaa hh
     have hnd' : ∀ o ∈ ops.toList, zbf o = false := fun o ho => by simpa using z29.1 hnd o ho
     have := zib (P := P) (r := r) (n := n) (Q := zuj Q (zaw (.region id ops false)) a.tmps.toList w) ops.toList a w hh hnd' hm fun a' w' h1 h2 h3 h4 => ⟨ds, by rw [h1, hd], h2, h3, h4⟩
     refine wpIn_region_list ?_
     simpa using this
   | true =>
     obtain ⟨hB, hh⟩ := zaa hh
     refine wpIn_region_any hmix ?_
     rw [z17, z17] at hB
     obtain ⟨⟨hB, hsel⟩, hnd⟩ := hB
     have hnd' : ∀ o ∈ ops.toList, zbf o = false := fun o ho => by simpa using z29.1 hnd o ho
     have key := znu (P := P) (md := zaw (.region id ops true)) (Q := Lift (fun e t h => Q e t ds h) (zaw (.region id ops true)) a.tmps.toList w) hsel (fun _ _ _ h => h) (fun _ _ h => h) hm ops.toList.length [] [] (Array.replicate ops.toList.length false) { a with defers := [] }
      { w with drawn := w.drawn + 1 } hh hB ⟨by simp, fun k hk => by rw [ztb true hk]; simp, fun k hk => by simp at hk⟩ (fun j oj hj hl => by rw [zn8] at hl; cases hl)
      rfl (fun a' w' hU => ⟨hU.1, ⟨hU.2.1.tape, hU.2.1.os, hU.2.1.output, Nat.le_trans (Nat.le_succ _) hU.2.1.drawn⟩, hU.2.2.1, hU.2.2.2⟩)
     have h1 := zsr _ _ _ _ key
     have h2 := zsg (r := r) (n := n) (ds := a.defers) (by simpa using hnd') (fun ⟨_, _, h⟩ => h) _ _ _ _ h1
     have mono : ∀ (fuel : Nat) (listed : Array Bool) (a1 : Act) (w1 : World), wpAnyIn (FW r) n P .any ops.toList.toArray (DmQ a.defers (Lift (fun e t h => Q e t ds h) (zaw (.region id ops true)) a.tmps.toList w)) fuel listed a1 w1 →
      wpAnyIn (FW r) n P .any ops.toList.toArray (zuj Q (zaw (.region id ops true)) a.tmps.toList w) fuel listed a1 w1 := by
      have hq : ∀ e a1 w1, DmQ a.defers (Lift (fun e t h => Q e t ds h) (zaw (.region id ops true)) a.tmps.toList w) e a1 w1 → zuj Q (zaw (.region id ops true)) a.tmps.toList w e a1 w1 := by
       rintro e a1 w1 ⟨a0, h, rfl⟩
       cases e with
       | normal => exact ⟨ds, by rw [h.1, z3f, hd], h.2.1, h.2.2.1, h.2.2.2⟩
       | exit id => exact ⟨ds, by rw [h.1, z3f, hd], h.2.1, h.2.2.1, h.2.2.2⟩
       | ret => exact ⟨ds, by rw [h.1, z3f, hd], h.2.1, h.2.2.1, h.2.2.2⟩
       | _ => exact h.elim
      have hqo : ∀ {Qa Qb : Exit → Act → World → Prop}, (∀ e a w, Qa e a w → Qb e a w) → ∀ {o : Oper} {a1 : Act} {w1 : World} {K : Act → World → Prop}, o.wpIn (FW r) n P a1 w1 K Qa → o.wpIn (FW r) n P a1 w1 K Qb := by
       intro Qa Qb hq o a1 w1 K h
       refine ⟨h.1, ?_⟩
       have h4 := h.2
       generalize (Oper.semAt (FW r).round a1.eval o).run P w1 = res at h4 ⊢
       cases res with
       | ok nx w' =>
         cases nx <;> simp only [Oper.uponIn] at h4 ⊢ <;> try exact h4
         case enter f args =>
          refine ⟨h4.1, h4.2.mono fun e w'' he => ?_⟩
          cases e with
          | returned v => exact he
          | panicked c => exact hq _ _ _ he
          | outgrown => obtain ⟨a2, w2, h⟩ := he; exact ⟨a2, w2, hq _ _ _ h⟩
         case round l f tmps assign body =>
          refine ⟨h4.1, RoundIn.mono h4.2 fun e w'' he => ?_⟩
          cases e with
          | returned v => exact he
          | panicked c => exact hq _ _ _ he
          | outgrown => obtain ⟨a2, w2, h⟩ := he; exact ⟨a2, w2, hq _ _ _ h⟩
       | halt x w' =>
         cases x <;> simp only [Oper.uponIn] at h4 ⊢ <;> try exact h4
         case panic v => exact hq _ _ _ h4
      intro fuel
      induction fuel with
      | zero => intro listed a1 w1 h; exact ⟨h.1, hq _ _ _ h.2⟩
      | succ fuel ih =>
        intro listed a1 w1 h
        refine ⟨fun hr => hq _ _ _ (h.1 hr), fun i hi => ?_⟩
        have := h.2 i hi
        unfold wpOpIn at this ⊢
        split
        · rename_i ho; rw [ho] at this; exact ih _ _ _ this
        · rename_i o ho
          rw [ho] at this
          simp only at this
          split
          · rename_i hw; rw [if_pos hw] at this; exact Oper.wpIn_mono (fun a' w' hh => ih _ _ _ hh) (hqo hq this)
          · rename_i hw; rw [if_neg hw] at this; exact ⟨this.1, ih _ _ _ this.2⟩
     have h3 := mono _ _ _ _ h2
     have : ({ a with defers := [] ++ a.defers } : Act) = a := by cases a; rfl
     rw [z3f] at h3
     simpa using h3
 | seq x y ihx ihy =>
   intro Q a w ds hh hd n
   simp only [vcI] at hh
   have hmx : ∀ i ∈ zaw x, i ∈ zaw (.seq x y) := fun i hi => by simp only [zaw, z2f]; exact .inl hi
   have hmy : ∀ i ∈ zaw y, i ∈ zaw (.seq x y) := fun i hi => by simp only [zaw, z2f]; exact .inr hi
   refine wpIn_seq (wpIn_mono (ihx _ a w ds hh hd n) fun e a1 w1 hq => ?_)
   cases e with
   | normal =>
     obtain ⟨ds1, h1, h2, h3, h4⟩ := hq
     refine wpIn_mono (ihy Q a1 w1 ds1 h4 h1 n) fun e a2 w2 hq2 => ?_
     have hq : UpI (zaw x) a.tmps.toList w (fun _ _ _ => True) a1 w1 := ⟨ds1, h1, h2, h3, trivial⟩
     cases e with
     | normal => exact UpI.after hq hq2 hmx hmy
     | exit id => exact UpI.after hq hq2 hmx hmy
     | ret => exact UpI.after hq hq2 hmx hmy
     | _ => exact hq2.elim
   | exit id => exact UpI.mono hq hmx fun _ _ _ h => h
   | ret => exact UpI.mono hq hmx fun _ _ _ h => h
   | _ => exact hq.elim
 | cond c x y ihx ihy =>
   intro Q a w ds hh hd n
   simp only [vcI] at hh
   unfold bcase at hh
   split at hh
   · rename_i b hb
     refine wpIn_cond (t := b) (by rw [zau]; exact hb) ?_
     have hmx : ∀ i ∈ zaw x, i ∈ zaw (.cond c x y) := fun i hi => by simp only [zaw, z2f]; exact .inl hi
     have hmy : ∀ i ∈ zaw y, i ∈ zaw (.cond c x y) := fun i hi => by simp only [zaw, z2f]; exact .inr hi
     cases b
     · exact wpIn_mono (ihy Q a w ds hh hd n) fun e a' w' hq => by
        cases e <;> first | exact UpI.mono hq hmy fun _ _ _ h => h | exact hq.elim
     · exact wpIn_mono (ihx Q a w ds hh hd n) fun e a' w' hq => by
        cases e <;> first | exact UpI.mono hq hmx fun _ _ _ h => h | exact hq.elim
   · exact hh.elim
 | block id c ih =>
   intro Q a w ds hh hd n
   simp only [vcI] at hh
   refine wpIn_block (wpIn_mono (ih _ a w ds hh hd n) fun e a' w' hq => ?_)
   cases e with
   | normal => exact hq
   | exit j =>
     simp only [Exit.inBlock]
     by_cases hj : j = id
     · rw [if_pos hj]
       exact UpI.mono hq (fun _ h => h) fun t ds h hk => by simpa [blockI, hj] using hk
     · rw [if_neg hj]
       have hb : z14 j id = false := by
        cases h : z14 j id with
        | false => rfl
        | true => exact absurd (z18 h) hj
       exact UpI.mono hq (fun _ h => h) fun t ds h hk => by simpa [blockI, hb] using hk
   | ret => exact hq
   | _ => exact hq.elim
 | loop c ih =>
   intro Q a w ds hh hd n
   simp only [vcI] at hh
   obtain ⟨I, m, h0, hr⟩ := hh
   refine wpIn_loop (fun a' w' => UpI (zaw c) a.tmps.toList w (fun t ds' h => ds' = ds ∧ app _ I (zsw t (zbj H.hs (zaf c))) h) a' w')
    (fun a' w' => zx1 _ m (zsw a'.tmps.toList (zbj H.hs (zaf c))) w'.heap) ⟨ds, hd, .refl w, .refl _ _, rfl, h0⟩ fun a1 w1 hU => ?_
   obtain ⟨ds1, u1, u2, u3, rfl, u4⟩ := hU
   have h1 := zfo _ I _ _ (hr (zc6 a1.tmps.toList) w1.heap) _ u4
   rw [zfg u3] at h1
   have hU : UpI (zaw c) a.tmps.toList w (fun _ _ _ => True) a1 w1 := ⟨ds1, u1, u2, u3, trivial⟩
   refine wpIn_mono (ih _ a1 w1 ds1 h1 u1 n) fun e a2 w2 hq => ?_
   cases e with
   | normal =>
     refine ⟨UpI.after hU (hq.mono (fun _ h => h) fun _ _ _ h => ⟨h.1, h.2.1⟩) (fun _ h => h) fun _ h => h, ?_⟩
     obtain ⟨_, _, _, _, h⟩ := hq
     exact h.2.2
   | exit id => exact UpI.after hU hq (fun _ h => h) fun _ h => h
   | ret => exact UpI.after hU hq (fun _ h => h) fun _ h => h
   | _ => exact hq.elim
 | exit id => intro Q a w ds hh hd n; simp only [vcI] at hh; exact wpIn_exit ⟨ds, hd, .refl w, .refl _ _, hh⟩
 | ret => intro Q a w ds hh hd n; simp only [vcI] at hh; exact wpIn_ret ⟨ds, hd, .refl w, .refl _ _, hh⟩
 | scope c ih =>
   intro Q a w ds hh hd n
   simp only [vcI] at hh
   refine zmy (wpIn_mono (ih Q a w ds hh hd n) fun e a' w' hq => ?_)
   cases e <;> first | exact hq | exact hq.elim
 | label l => intro Q a w ds hh hd n; simp only [vcI] at hh; exact wpIn_label ⟨ds, hd, .refl w, .refl _ _, hh⟩
 | rangeFunc g ps assign body _ _ => intro Q a w ds hh hd n; exact hrange g ps assign body Q a w ds hh hd n
 | _ => intro Q a w ds hh hd n; simp only [vcI] at hh
theorem zp7 (hmix : P.follows .mixedOrders = true) {H : Hn} {l : Nat} (c : Code) (Q : zmw) (a : Act) (w : World) (ds : List Nat) (hh : vcI P H true c Q a.tmps.toList ds w.heap) (hd : a.defers = ds.map mark) (n : Nat) :
 c.wpIn (FW (some l)) n P (zuj Q (zaw c) a.tmps.toList w) a w :=
 zp6 hmix (r := some l) (fun g ps assign body Q a w ds h => by simp only [Option.isSome_some, vcI] at h) c Q a w ds hh hd n
theorem All_of {z : Sh} {f : Value → Prop} (h : ∀ v, f v) : z.All f := by
 cases z <;> simp only [Sh.All] <;> intros <;> exact h _
theorem alL_of : ∀ {l : List Value} {f : List Value → Prop}, (∀ vs, f vs) → alL l f
 | [], _, h => h _
 | _ :: _, _, h => All_of fun _ => alL_of fun _ => h _
theorem alE_of {z : Value} {f : Value → Prop} (h : ∀ v, f v) : alE z f := by
 unfold alE
 split
 · exact alL_of fun _ => h _
 · exact All_of h
theorem zsj {rs : List (Nat × TypeId)} : ∀ {ps : List Tmp} {f : List Value → Prop}, (∀ vs, vs.length = ps.length → f vs) → alArgs P rs ps f
 | [], _, h => h _ rfl
 | p :: ps, _, h => alE_of fun v => zsj fun vs hv => h _ (by simp [hv])
theorem zny {f : Ex → Prop} : ∀ {l : List Ex}, anyOf f l → ∃ e ∈ l, f e
 | e :: l, h => by
   rcases h with h | h
   · exact ⟨e, by simp, h⟩
   · obtain ⟨e', h1, h2⟩ := zny h; exact ⟨e', by simp [h1], h2⟩
theorem ztd (hmix : P.follows .mixedOrders = true) {H : Hn} (g : Operand) (ps : Array Tmp) (assign body : Code) (Q : zmw) (a : Act) (w : World) (ds : List Nat)
 (hh : vcI P H false (.rangeFunc g ps assign body) Q a.tmps.toList ds w.heap) (hd : a.defers = ds.map mark) (n : Nat) :
 (Code.rangeFunc g ps assign body).wpIn (FW none) n P (zuj Q [] a.tmps.toList w) a w := by
 simp only [vcI] at hh
 refine wpIn_rangeFunc ?_
 intro fn _
 obtain ⟨rc, hrc⟩ : ∃ rc : LoopState → Option Code → Loop, rc = fun st pe => { state := st, pending := pe, fn, tmps := a.tmps, params := ps, assign, body, defers := w.heap.size } := ⟨_, rfl⟩
 have h1 := hh (.loop (rc .ready none)) (.loop (rc .busy none)) (fun e => .loop (rc .done (some (zwe e))))
 let h2 : zac := (w.heap.push (.deferred (some []))).push (.loop (rc .ready none))
 have hl : (w.heap.push (Obj.deferred (some []))).size = w.heap.size + 1 := by simp
 have hcall := h1 (by
  rw [hl]
  refine zsj fun as' has h3 R hat hb => ?_
  intro w' hw'
  subst hw'
  have has' : as'.toArray.size = ps.size := by simpa using has
  refine ⟨fn, _, assign, body, by rw [hrc] at hat; exact run_yield hat has', ?_⟩
  refine roundIn_of_wpIn (F := FW none) trivial ?_
  show assign.wpIn (FW (some (w.heap.size + 1))) 0 P _ _ _
  generalize htm : ((ps.zip as'.toArray).foldl (fun tmps (x : Tmp × Value) => tmps.setIfInBounds x.1 x.2) a.tmps) = tm
  have htl : tm.toList = ze1 a.tmps.toList ps.toList as' := by
   rw [← htm, ← zgd, ← Array.foldl_toList, Array.toList_zip]
  refine wpIn_mono (zp7 hmix assign _ { tmps := tm, defers := [] } w' [] (by rw [htl]; exact hb) rfl 0) fun e a1 w1 hq => ?_
  cases e with
  | normal =>
    obtain ⟨ds1, k1, k2, k3, rfl, k4, k5⟩ := hq
    refine ⟨w1.putObj (w.heap.size + 1) (.loop (rc .busy none)), by rw [hrc] at k4 ⊢; exact run_beginRound k4 rfl, ?_⟩
    show body.wpIn (FW (some (w.heap.size + 1))) 0 P _ _ _
    refine wpIn_mono (zp7 hmix body _ a1 (w1.putObj (w.heap.size + 1) (.loop (rc .busy none))) [] k5 k1 0) fun e a2 w2 hq2 => ?_
    have sm : ∀ o, Same w1 w2 → Same w' (w2.putObj (w.heap.size + 1) o) := fun o h => (k2.trans h).trans (Same.put _ _ _)
    cases e with
    | normal =>
      obtain ⟨ds2, -, m2, -, m4, m5⟩ := hq2
      exact ⟨_, _, run_endRound none m4, _, rfl, by rw [hrc] at m5 ⊢; exact m5, sm _ ((Same.put _ _ _).trans m2)⟩
    | exit i =>
      obtain ⟨ds2, -, m2, -, m4, m5⟩ := hq2
      exact ⟨_, _, run_endRound (some (.exit i)) m4, _, rfl, by rw [hrc] at m5 ⊢; exact m5, sm _ ((Same.put _ _ _).trans m2)⟩
    | ret =>
      obtain ⟨ds2, -, m2, -, m4, m5⟩ := hq2
      exact ⟨_, _, run_endRound (some .ret) m4, _, rfl, by rw [hrc] at m5 ⊢; exact m5, sm _ ((Same.put _ _ _).trans m2)⟩
    | _ => exact hq2.elim
  | exit i => obtain ⟨_, _, _, _, h⟩ := hq; exact h.elim
  | ret => obtain ⟨_, _, _, _, h⟩ := hq; exact h.elim
  | _ => exact hq.elim)
 rw [hl] at hcall
 unfold zsn at hcall
 split at hcall
 · rename_i gf first captured hg
   let W1 : World := (w.alloc (.deferred (some []))).alloc (.loop (rc .ready none))
   have hW1 : W1.heap = h2 := rfl
   have hevg : a.eval g = .func (.func gf) first captured := by rw [zau]; exact hg
   refine ⟨w.heap.size + 1, [{ target := .collected w.heap.size, args := #[] }], W1, { target := .fn (.func gf) captured, args := first ++ #[.func (.yield (w.heap.size + 1)) #[] #[]] }, W1, gf,
    (first ++ #[.func (.yield (w.heap.size + 1)) #[] #[]]) ++ captured, W1, ?_, ?_, fun _ _ => trivial, ?_, fun hx => (by cases hx), ?_⟩
   · show (Instr.enterLoop fn a.tmps ps assign body none).run P w = _
     rw [run_enterLoop_outer]; subst hrc; rfl
   · simp only [resolve, hevg, Deferred.ofValue]
     simp [Act.eval]
   · show (callFunc gf _).run P W1 = _
     exact zde hcall.1 _ _
   · have hc := hcall.2 W1 hW1
     have ha : (first.toList ++ [Value.func (.yield (w.heap.size + 1)) #[] #[]] ++ captured.toList).toArray = (first ++ #[.func (.yield (w.heap.size + 1)) #[] #[]]) ++ captured := by apply Array.ext'; simp
     rw [ha] at hc
     refine (zil hc).mono ?_
     rintro e w3 ⟨v, rfl, hK, hS⟩
     have sW : Same w w3 := ((Same.alloc _ _).trans (Same.alloc _ _)).trans hS
     rcases hK with ⟨k1, k2⟩ | hK
     · rw [hrc] at k1
       refine ⟨_, _, run_endLoop k1 (by simp), ?_⟩
       exact ⟨w.heap.size :: ds, by show [_] ++ a.defers = _; rw [hd]; rfl, sW.trans (Same.put _ _ _), .refl _ _, k2 _⟩
     · obtain ⟨e, he, k1, k2⟩ := zny hK
       rw [hrc] at k1
       refine ⟨_, _, run_endLoop k1 (by simp), ?_⟩
       have hfin : ∀ (K : List Value → List Nat → zac → Prop), K a.tmps.toList (w.heap.size :: ds) (w3.putObj (w.heap.size + 1) (.loop { (rc .done (some (zwe e))) with state := .exhausted })).heap →
        UpI [] a.tmps.toList w K { a with defers := [{ target := .collected w.heap.size, args := #[] }] ++ a.defers } (w3.putObj (w.heap.size + 1) (.loop { (rc .done (some (zwe e))) with state := .exhausted })) := fun K hK =>
        ⟨w.heap.size :: ds, by show [_] ++ a.defers = _; rw [hd]; rfl, sW.trans (Same.put _ _ _), .refl _ _, hK⟩
       have k3 := k2 (.loop { (rc .done (some (zwe e))) with state := .exhausted })
       rw [hrc] at hfin k3
       cases e with
       | nrm => exact absurd he (zt2 body)
       | ret => exact wpIn_ret (hfin _ k3)
       | ext i => exact wpIn_exit (hfin _ k3)
 · exact hcall.elim
theorem zrk {fn : Func} {tmps : Array Value} {R : Ending → World → Prop} {n : Nat} {K : zac → Prop} : ∀ (ds : List Nat) (w : World), zqe ds w.heap K → (∀ w', K w'.heap → Same w w' → ∃ v, (results fn tmps).run P w' = .ok v w' ∧ R (.returned v) w') →
 LeavesInM (FW none) n P fn tmps R (ds.map mark) .returning w
 | [], w, h, hK => hK w h (.refl w)
 | D :: ds, w, h, hK => by
   refine ⟨by simp, .inl ⟨D, w.putObj D (.deferred none), rfl, run_takeDeferred h.1, ?_⟩⟩
   exact zrk ds _ h.2 fun w' h1 h2 => hK w' h1 ((Same.put _ _ _).trans h2)
theorem zxq {f : FuncId} {fn : Func} (hmix : P.follows .mixedOrders = true) (hf : P.funcs[f]? = some fn) (hn : (fn.name == "runtime.NumGoroutine") = false) {H : Hn} {args : List Value} {h : zac} {R : Value → zac → Prop}
 (hh : zyo P H fn args h R) : Run P f args h R := by
 unfold zyo at hh
 split at hh
 · exact hh.elim
 · rename_i c hc
   refine ⟨⟨fn, hf, hn, by simp [hc]⟩, fun w hw => ?_⟩
   subst hw
   refine (callsIn_wide (n := 0)).1 (callsIn_of_wp_marks (F := FW none) hf hc trivial ?_)
   have hl : (args.toArray ++ Array.replicate (fn.ntmps - args.toArray.size) undef : Array Value).toList = args ++ z2g (fn.ntmps - args.length) undef := by simp
   refine wpIn_mono (zp6 hmix (r := none) (fun g ps as' b Q a w ds h hd n => ztd hmix g ps as' b Q a w ds h hd n) c _ { tmps := args.toArray ++ Array.replicate (fn.ntmps - args.toArray.size) undef, defers := [] } w [] (by rw [hl]; exact hh) rfl 0) fun e a' w' hq => ?_
   have fin : ∀ ds, a'.defers = ds.map mark → Same w w' → (zqe ds w'.heap fun h => zzt P fn.results.toList a'.tmps.toList h fun vs => R (one vs) h) →
    LeavesInM (FW none) 0 P fn a'.tmps (fun e w' => ∃ v, e = .returned v ∧ R v w'.heap ∧ Same w w') a'.defers .returning w' := fun ds h1 h2 h3 => by
    rw [h1]
    refine zrk ds w' h3 fun w2 h4 h5 => ?_
    obtain ⟨v, hR, hr⟩ := zeh rfl h4
    exact ⟨v, hr w2 rfl, v, rfl, hR, h2.trans h5⟩
   cases e with
   | normal => obtain ⟨ds, h1, h2, -, h4⟩ := hq; exact fin ds h1 h2 h4
   | ret => obtain ⟨ds, h1, h2, -, h4⟩ := hq; exact fin ds h1 h2 h4
   | exit id => obtain ⟨ds, -, -, -, h4⟩ := hq; exact h4.elim
   | _ => exact hq.elim
theorem zll {V : Prop} {f : FuncId} {fn : Func} (hmix : P.follows .mixedOrders = true) (hf : P.funcs[f]? = some fn) (hn : (fn.name == "runtime.NumGoroutine") = false) {H : Hn} {args : List Value} {h : zac} {R : Value → zac → Prop}
 (hV : V = zyo P H fn args h R) (hh : V) : Run P f args h R :=
 zxq hmix hf hn (hV ▸ hh)
end
section
set_option maxRecDepth 100000
theorem ztp : Tryz.prog.follows .mixedOrders = true := by kernel_rfl
def H79 : Hn := ⟨[], [], []⟩
def VC79 (q : Option Addr) (h : zac) (R : Value → zac → Prop) : Prop :=
 Run Tryz.prog 98 [.pointer q] h (fun v1 h1 => ∃ b1 : Bool, v1 = .bool b1 ∧ (bif !b1 then R (.slice none 0 0) h1 else zep q (fun m1 m2 => ∃ p1 : Option Addr, ∃ m3 : Nat, ∃ m4 : Nat, hcell h1 ⟨m1, m2, none⟩ = some (.slice p1 m3 m4) ∧ (Run Tryz.prog 133 [.slice p1 m3 m4] h1 (fun v2 h2 => ∃ v3 : Value, v2 = v3 ∧ (Run Tryz.prog 132 [v3, .func (.func 134) #[] #[]] h2 (fun v4 h3 => ∃ p2 : Option Addr, ∃ m5 : Nat, ∃ m6 : Nat, v4 = .slice p2 m5 m6 ∧ (R (.slice p2 m5 m6) h3))))))))
theorem V79 (q : Option Addr) (h : zac) (R : Value → zac → Prop) (hh : VC79 q h R) : Run Tryz.prog 79 [.pointer q] h R :=
 zd1 ztp Tryz.func79 (by kernel_rfl) (H := H79) (by kernel_rfl) hh
def H132 : Hn := ⟨[], [], []⟩
def VC132 (seq : Value) (cmp : Value) (h : zac) (R : Value → zac → Prop) : Prop :=
 Run Tryz.prog 173 [seq] h (fun v1 h1 => ∃ p1 : Option Addr, ∃ m1 : Nat, ∃ m2 : Nat, v1 = .slice p1 m1 m2 ∧ (Run Tryz.prog 174 [.slice p1 m1 m2, cmp] h1 (fun v2 h2 => v2 = .tuple #[] ∧ (R (.slice p1 m1 m2) h2))))
theorem V132 (seq : Value) (cmp : Value) (h : zac) (R : Value → zac → Prop) (hh : VC132 seq cmp h R) : Run Tryz.prog 132 [seq, cmp] h R :=
 zd1 ztp Tryz.func132 (by kernel_rfl) (H := H132) (by kernel_rfl) hh
def H133 : Hn := ⟨[], [], []⟩
def VC133 (sA : Option Addr) (sN : Nat) (sC : Nat) (h : zac) (R : Value → zac → Prop) : Prop :=
 zkg h (.cells #[.slice sA sN sC] 170) (fun m1 h1 => R (.func (.func 175) #[] #[.pointer (some ⟨m1, 0, none⟩)]) h1)
theorem V133 (sA : Option Addr) (sN : Nat) (sC : Nat) (h : zac) (R : Value → zac → Prop) (hh : VC133 sA sN sC h R) : Run Tryz.prog 133 [.slice sA sN sC] h R :=
 zd1 ztp Tryz.func133 (by kernel_rfl) (H := H133) (by kernel_rfl) hh
def H175 : Hn := ⟨[(1, [(7, .i .i64)])], [], []⟩
def VC175 (yield : Value) (a1 : Option Addr) (h : zac) (R : Value → zac → Prop) : Prop :=
 zep a1 (fun m1 m2 => ∃ p1 : Option Addr, ∃ m3 : Nat, ∃ m4 : Nat, hcell h ⟨m1, m2, none⟩ = some (.slice p1 m3 m4) ∧ (∃ k1 : Int → zac → Prop, ∃ z1 : Int → zac → Nat, k1 0 h ∧ (∀ g1 : Nat → Value, ∀ h1 : zac, ∀ x1 : Int, k1 x1 h1 → (bif decide (x1 < (m3 : Int)) then zep p1 (fun m5 m6 => 0 ≤ x1 ∧ x1 < (m3 : Int) ∧ (∃ x2 : Int, hcell h1 ⟨m5, m6 + z16 x1 * 3, none⟩ = some (.int .i64 x2) ∧ (∃ x3 : Int, hcell h1 ⟨m5, m6 + z16 x1 * 3 + 1, none⟩ = some (.int .i64 x3) ∧ (∃ x4 : Int, hcell h1 ⟨m5, m6 + z16 x1 * 3 + 2, none⟩ = some (.int .i64 x4) ∧ (zkg h1 (.cells #[.int .i64 0, .int .i64 0, .int .i64 0] 136) (fun m7 h2 => zdr m7 0 [.int .i64 x2, .int .i64 x3, .int .i64 x4] 0 h2 (fun h3 => ∃ x5 : Int, hcell h3 ⟨m7, 0, none⟩ = some (.int .i64 x5) ∧ (∃ x6 : Int, hcell h3 ⟨m7, 1, none⟩ = some (.int .i64 x6) ∧ (∃ x7 : Int, hcell h3 ⟨m7, 2, none⟩ = some (.int .i64 x7) ∧ (CallVI Tryz.prog yield [.agg #[.int .i64 x5, .int .i64 x6, .int .i64 x7]] h3 (fun v1 h4 => ∃ b1 : Bool, v1 = .bool b1 ∧ (bif !b1 then R (.tuple #[]) h4 else ([] : List Nat) = ([] : List Nat) ∧ (k1 (z13 .i64 (x1 + 1)) h4 ∧ z1 (z13 .i64 (x1 + 1)) h4 < z1 x1 h1))))))))))))) else R (.tuple #[]) h1))))
theorem V175 (yield : Value) (a1 : Option Addr) (h : zac) (R : Value → zac → Prop) (hh : VC175 yield a1 h R) : Run Tryz.prog 175 [yield, .pointer a1] h R :=
 zll ztp Tryz.func175 (by kernel_rfl) (H := H175) (by kernel_rfl) hh
def H191 : Hn := ⟨[], [], [(7, 136)]⟩
def VC191 (sA : Option Addr) (sN : Nat) (sC : Nat) (seq : Value) (h : zac) (R : Value → zac → Prop) : Prop :=
 zkg h (.cells #[.slice sA sN sC] 170) (fun m1 h1 => ∀ oR1 oB1 : Obj, ∀ oD1 : Ex → Obj, zkg h1 (.deferred (some [])) (fun m2 h2 => zkg h2 oR1 (fun m3 h3 => (∀ x1 : Int, ∀ x2 : Int, ∀ x3 : Int, ∀ h4 : zac, ∀ R1 : Value → zac → Prop, atO h4 m3 oR1 → (zkg h4 (.cells #[.int .i64 0, .int .i64 0, .int .i64 0] 136) (fun m4 h5 => zdr m4 0 [.int .i64 x1, .int .i64 x2, .int .i64 x3] 0 h5 (fun h6 => ([] : List Nat) = [] ∧ (atO h6 m3 oR1 ∧ zx7 h6 m3 oB1 (fun h7 => ∃ p1 : Option Addr, ∃ m5 : Nat, ∃ m6 : Nat, hcell h7 ⟨m1, 0, none⟩ = some (.slice p1 m5 m6) ∧ (∃ x4 : Int, hcell h7 ⟨m4, 0, none⟩ = some (.int .i64 x4) ∧ (∃ x5 : Int, hcell h7 ⟨m4, 1, none⟩ = some (.int .i64 x5) ∧ (∃ x6 : Int, hcell h7 ⟨m4, 2, none⟩ = some (.int .i64 x6) ∧ (zkg h7 (.cells #[.int .i64 x4, .int .i64 x5, .int .i64 x6] 136) (fun m7 h8 => znx Tryz.prog #[170, 170] 170 (.slice p1 m5 m6) (.slice (some ⟨m7, 0, none⟩) 1 1) h8 (fun v1 h9 => ∃ p2 : Option Addr, ∃ m8 : Nat, ∃ m9 : Nat, v1 = .slice p2 m8 m9 ∧ (stK h9 ⟨m1, 0, none⟩ (.slice p2 m8 m9) (fun h10 => atO h10 m3 oB1 ∧ zx7 h10 m3 oR1 (R1 (.bool true))))))))))))))) → YRun Tryz.prog m3 [.agg #[.int .i64 x1, .int .i64 x2, .int .i64 x3]] h4 R1) → zsn Tryz.prog seq [.func (.yield m3) #[] #[]] h3 (fun _ h11 => (atO h11 m3 oR1 ∧ (∀ oX1 : Obj, zx7 h11 m3 oX1 (fun h12 => ∃ p3 : Option Addr, ∃ m10 : Nat, ∃ m11 : Nat, hcell h12 ⟨m1, 0, none⟩ = some (.slice p3 m10 m11) ∧ (atO h12 m2 (.deferred (some [])) ∧ zx7 h12 m2 (.deferred none) (fun h13 => R (.slice p3 m10 m11) h13))))) ∨ False))))
theorem V191 (sA : Option Addr) (sN : Nat) (sC : Nat) (seq : Value) (h : zac) (R : Value → zac → Prop) (hh : VC191 sA sN sC seq h R) : Run Tryz.prog 191 [.slice sA sN sC, seq] h R :=
 zll ztp Tryz.func191 (by kernel_rfl) (H := H191) (by kernel_rfl) hh
def H173 : Hn := ⟨[], [], []⟩
def VC173 (seq : Value) (h : zac) (R : Value → zac → Prop) : Prop :=
 Run Tryz.prog 191 [.slice none 0 0, seq] h (fun v1 h1 => ∃ p1 : Option Addr, ∃ m1 : Nat, ∃ m2 : Nat, v1 = .slice p1 m1 m2 ∧ (R (.slice p1 m1 m2) h1))
theorem V173 (seq : Value) (h : zac) (R : Value → zac → Prop) (hh : VC173 seq h R) : Run Tryz.prog 173 [seq] h R :=
 zd1 ztp Tryz.func173 (by kernel_rfl) (H := H173) (by kernel_rfl) hh
def H98 : Hn := ⟨[], [], []⟩
def VC98 (q : Option Addr) (h : zac) (R : Value → zac → Prop) : Prop :=
 bif !(Option.isNone q) then zep q (fun m1 m2 => ∃ r1 : Option Nat, hcell h ⟨m1, m2 + 1, none⟩ = some (.map r1) ∧ (R (.bool (!(Option.isNone r1))) h)) else R (.bool false) h
theorem V98 (q : Option Addr) (h : zac) (R : Value → zac → Prop) (hh : VC98 q h R) : Run Tryz.prog 98 [.pointer q] h R :=
 zd1 ztp Tryz.func98 (by kernel_rfl) (H := H98) (by kernel_rfl) hh
end
structure Loc where
 b : Nat
 a : Option Addr
 n : Nat
 c : Nat
 o : Option Obj
mutual
inductive Rp (D : Fz) (ρ : List Loc) : Value → V → Prop
 | u {v : Value} {x : U} : Rd D v x → Rp D ρ v (.u x)
 | r {b o : Nat} {L : Loc} : ρ[b]? = some L → Rp D ρ (.pointer (some ⟨L.b, o, none⟩)) (.r b o)
 | e {b sz o p q : Nat} {k : Int} {L : Loc} : ρ[b]? = some L → L.a = some ⟨p, q, none⟩ → 0 ≤ k → k < L.n → Rp D ρ (.pointer (some ⟨p, q + k.toNat * sz + o, none⟩)) (.e b sz k o)
 | g {b o w : Nat} {k : Int} {L : Loc} : ρ[b]? = some L → 0 ≤ k → k < w → Rp D ρ (.pointer (some ⟨L.b, o + k.toNat, none⟩)) (.g b o w k)
 | q {c : List U} {p o o' : Nat} : Rd D (.pointer (some ⟨p, o, none⟩)) (.p (some c)) → o' = o → ∀ n, Rp D ρ (.pointer (some ⟨p, o' + n, none⟩)) (.q c n)
 | w {b : Nat} {L : Loc} : ρ[b]? = some L → Rp D ρ (.slice L.a L.n L.c) (.w b)
 | c {a : Option Addr} {n sz : Nat} {rows : List (List U)} : Rd D (.slice a n n) (.l sz rows) → Rp D ρ (.slice a n n) (.c sz rows)
 | m {b : Nat} {L : Loc} : ρ[b]? = some L → Rp D ρ (.map (some L.b)) (.m b)
 | nm : Rp D ρ (.map none) .nm
 | nl {s : Nat} : Rp D ρ (.slice none 0 0) (.nl s)
 | f {g : FuncId} {xs ys : List Value} {a c : List V} : RpL D ρ xs a → RpL D ρ ys c → Rp D ρ (.func (.func g) xs.toArray ys.toArray) (.f g a c)
 | a {vs : List Value} {l : List V} : RpC D ρ vs l → Rp D ρ (.agg vs.toArray) (.a l)
 | t {vs : List Value} {l : List V} : RpL D ρ vs l → Rp D ρ (.tuple vs.toArray) (.t l)
 | z {v : Value} : Rp D ρ v .z
 | y {b : Nat} {L : Loc} : ρ[b]? = some L → Rp D ρ (.func (.yield L.b) #[] #[]) (.y b)
 | v {b sz l n cap : Nat} {c : Bool} {a : Option Addr} {L : Loc} : ρ[b]? = some L → l + n ≤ L.n → (l = 0 → a = L.a) → (0 < n → ∃ p q, L.a = some ⟨p, q, none⟩ ∧ a = some ⟨p, q + l * sz, none⟩) → n ≤ cap → (c = true → cap = n) → (c = false → l = 0 → cap = L.c) →
     Rp D ρ (.slice a n cap) (.v b sz l n c)
 | sl {b o n cap : Nat} {a : Option Addr} {L : Loc} : ρ[b]? = some L → (0 < n → a = some ⟨L.b, o, none⟩) → n ≤ cap → Rp D ρ (.slice a n cap) (.sl b o n)
inductive RpL (D : Fz) (ρ : List Loc) : List Value → List V → Prop
 | nil : RpL D ρ [] []
 | cons {v : Value} {x : V} {vs : List Value} {xs : List V} : Rp D ρ v x → RpL D ρ vs xs → RpL D ρ (v :: vs) (x :: xs)
inductive RpC (D : Fz) (ρ : List Loc) : List Value → List V → Prop
 | nil : RpC D ρ [] []
 | cons {v : Value} {x : V} {vs : List Value} {xs : List V} : Rp D ρ v x → (∀ k w l, x ≠ .n k w l) → RpC D ρ vs xs → RpC D ρ (v :: vs) (x :: xs)
 | n {k : IntKind} {w : Nat} {l : List Int} {vs : List Value} {xs : List V} : l.length = w → RpC D ρ vs xs → RpC D ρ (l.map (.int k) ++ vs) (.n k w l :: xs)
end
inductive MRel (D : Fz) (ag : Bool) : MV → List (MK × List U) → Prop
 | nil : MRel D ag [] []
 | cons {k : MK} {v : Value} {us : List U} {vs : List Value} {m : MV} {rows : List (MK × List U)} : RdL D vs us → cond ag (v = .agg vs.toArray) (vs = [v]) → MRel D ag m rows → MRel D ag ((k, v) :: m) ((k, us) :: rows)
inductive Ent (D : Fz) (ρ : List Loc) (L : Loc) : AB → zab → Prop
 | c {arr : List Value} {T : TypeId} {l : List V} : RpC D ρ arr l → Ent D ρ L (.c l) [(L.b, .cells arr.toArray T (0, 0))]
 | w {E sz : Nat} {rows : List (List U)} {ch : zab} : Own D E sz L.a L.c rows ch → L.n = rows.length → Ent D ρ L (.w E sz rows) ch
 | o {I : Ob} {ch : zab} : I.f D L.b ch → Ent D ρ L (.o I) ch
 | p {kt : KT} {sz : Nat} {ag : Bool} {rows : List (MK × List U)} {es : Array MapEntry} {clk : Nat} {mv : MV} : MpI kt es clk mv → MRel D ag mv rows → (∀ r ∈ rows, r.2.length = sz) → Ent D ρ L (.p kt sz ag rows) [(L.b, .map es clk)]
 | tk {ob : Obj} : L.o = some ob → Ent D ρ L .tk [(L.b, ob)]
 | x : Ent D ρ L .x []
 | cw {E sz n b : Nat} {vs ps : List Value} {l : List V} : L.a = some ⟨b, 0, none⟩ → L.n = n → RpC D ρ vs l → vs.length = n * sz → (vs ++ ps).length = L.c * sz → n ≤ L.c → Ent D ρ L (.cw E sz n l) [(b, .cells (vs ++ ps).toArray E (0, 0))]
structure SAt (D : Fz) (ρ : List Loc) (m : Mem) (chs C : List zab) (h : zac) : Prop where
 len : ρ.length = m.length
 lch : chs.length = m.length
 ent : ∀ (i : Nat) (L : Loc) (ab : AB) (ch : zab), ρ[i]? = some L → m[i]? = some ab → chs[i]? = some ch → Ent D ρ L ab ch
 st : St D (chs ++ C) h
def PRun (P : Program) (g : FuncId) (m : Mem) (args : List V) (Q : V → Mem → Prop) : Prop :=
 ∀ (D : Fz) (ρ : List Loc) (chs C : List zab) (h : zac) (vs : List Value), SAt D ρ m chs C h → RpL D ρ vs args →
   Run P g vs h fun v h' => ∃ (D' : Fz) (ρ' : List Loc) (chs' : List zab) (x : V) (m' : Mem), Le D D' ∧ SAt D' (ρ ++ ρ') m' chs' C h' ∧ Rp D' (ρ ++ ρ') v x ∧ Q x m'
abbrev RP.I : RP := .one (.i .i64)
abbrev RP.B : RP := .one .b
abbrev RP.L (s : Nat) : RP := .one (.l s)
def patZ : Value × Nat → Pt
 | (.int k _, _) => .i k
 | (.bool _, _) => .b
 | (.string _, _) => .s
 | (.slice .., s) => .l s
 | (.pointer _, _) => .p
 | _ => .z
def patT (P : Program) (T : TypeId) : RP :=
 match zoy P T with
 | some (.one z) => .one (patZ z)
 | some (.many zs) => .agg (zs.map patZ)
 | none => .one .z
def patC (m : Mem) : V → Pt
 | .u (.i k _) => .i k
 | .u (.b _) => .b
 | .u (.s _) => .s
 | .u (.l s _) => .l s
 | .u (.p _) => .p
 | .q _ 0 => .p
 | .c s _ => .l s
 | .nl s => .l s
 | .n _ w _ => .n w
 | .w j => match mg m j with
   | .w E sz _ => .ow E sz
   | _ => .z
 | .r j o => .r j o
 | .m j => .m j
 | .nm => .nm
 | _ => .z
def patA (m : Mem) (own : Bool) : AB → BP
 | .o _ => .A
 | .x => .X
 | .tk => .X
 | .w E sz _ => cond own (.row E sz) .X
 | .p kt sz ag _ => .mp kt sz ag
 | .c l => .c (l.map (patC m))
 | .cw .. => .X
def zmc (P : Program) : List TypeId → List V → List V
 | T :: Ts, v :: l => datV (zcn P T v) :: zmc P Ts l
 | _, l => l
def zdv (P : Program) (gc : Bool) : List TypeId → List V → List V
 | T :: Ts, v :: l => cond gc (zcn P T v) (datV (zcn P T v)) :: zdv P gc Ts l
 | _, l => l
def frzV (ro : List Nat) (m : Mem) : V → Option (V × Mem)
 | .w b => match toU ro m (.w b) with
   | some (u, m1) => some (.u u, m1)
   | none => none
 | .a l => match frzC m l with
   | some (l', m1) => some (.a l', m1)
   | none => none
 | v => some (v, m)
where frzC : Mem → List V → Option (List V × Mem)
 | m, [] => some ([], m)
 | m, .w b :: l => match toU ro m (.w b) with
   | some (u, m1) => match frzC m1 l with
     | some (l', m2) => some (.u u :: l', m2)
     | none => none
   | none => none
 | m, v :: l => match frzC m l with
   | some (l', m2) => some (v :: l', m2)
   | none => none
def frzL (ro : List Nat) : Mem → List V → Option (List V × Mem)
 | m, [] => some ([], m)
 | m, v :: l => match frzV ro m v with
   | some (v', m1) => match frzL ro m1 l with
     | some (l', m2) => some (v' :: l', m2)
     | none => none
   | none => none
def zh9 : List Nat → Nat → Nat → Nat
 | [], _, k => k
 | x :: l, b, k => cond (z14 x b) k (zh9 l b (k + 1))
def zw7 : List Nat → Nat → Nat
 | [], _ => 0
 | x :: _, 0 => x
 | _ :: l, n + 1 => zw7 l n
def oneV : List V → V
 | [v] => v
 | l => .t l
def roEq (ro : List Nat) (m m' : Mem) : List Nat → Prop → Prop
 | [], K => K
 | b :: ix, K => cond (inL ro b) (mg m' b = mg m b ∧ roEq ro m m' ix K) (roEq ro m m' ix K)
def resX (rs : List RP) (x : V) : List V :=
 match rs, x with
 | [_], x => [x]
 | _, .t l => l
 | _, x => [x]
def oneR (rs : List RP) (xs : List V) : V :=
 match rs with
 | [_] => oneV xs
 | _ => .t xs
def post (rs : List RP) (bs : List BP) (F : PtT Prop (rs.flatMap RP.ps ++ bs.flatMap BP.ps)) (x : V) (m' : Mem) : Prop :=
 match pkR bs.length m' rs (resX rs x) with
 | some (os, m1) => match pkB bs.length m1 bs (z2b bs.length) with
   | some (os2, _) => apP False _ F (os ++ os2)
   | none => False
 | none => False
structure KN (P : Program) where
 f : FuncId → Mem → List V → Option (V × Mem)
 ok : ∀ g m a r, f g m a = some r → PRun P g m a fun x m' => x = r.1 ∧ m' = r.2
def KN.no {P : Program} : KN P := ⟨fun _ _ _ => none, fun _ _ _ _ h => nomatch h⟩
structure Nx (ro hr : List Nat) (D : Fz) (ρ : List Loc) (m : Mem) (chs : List zab) (D' : Fz) (ρ' : List Loc) (m' : Mem) (chs' : List zab) : Prop where
 le : Le D D'
 pre : ∃ s, ρ' = ρ ++ s
 keep : ∀ b, inL hr b = true → b < m.length → chs'[b]? = chs[b]?
 same : ∀ b, inL (hr ++ ro) b = true → b < m.length → mg m' b = mg m b
 len : m.length ≤ m'.length
def zc5 (ro hr : List Nat) (D : Fz) (ρ : List Loc) (m : Mem) (chs C : List zab) (KS : V → Mem → Prop) (v : Value) (h' : zac) : Prop :=
 ∃ D' ρ' m' chs' x, Nx ro hr D ρ m chs D' ρ' m' chs' ∧ SAt D' ρ' m' chs' C h' ∧ Rp D' ρ' v x ∧ KS x m'
def zf9 (P : Program) (X : Fz → List Loc → Prop) (ro hr : List Nat) (call : zb2) : Prop :=
 ∀ {g : FuncId} {args : List V} {m : Mem} {KS : V → Mem → Prop} {D : Fz} {ρ : List Loc} {chs C : List zab} {h : zac} {vs : List Value}, X D ρ → call g args m KS → SAt D ρ m chs C h → RpL D ρ vs args → Run P g vs h (zc5 ro hr D ρ m chs C KS)
def Stab (X : Fz → List Loc → Prop) : Prop := ∀ {D D' : Fz} {ρ : List Loc} (s : List Loc), X D ρ → Le D D' → X D' (ρ ++ s)
structure SP (P : Program) where
 f : List Nat → zb2 → FuncId → List V → Mem → (V → Mem → Prop) → Option Prop
 ok : ∀ {ro hr : List Nat} {X : Fz → List Loc → Prop} {call : zb2}, Stab X → zf9 P X ro hr call → ∀ {g : FuncId} {args : List V} {m : Mem} {KS : V → Mem → Prop} {p : Prop}, f (hr ++ ro) call g args m KS = some p → p →
  ∀ {D : Fz} {ρ : List Loc} {chs C : List zab} {h : zac} {vs : List Value}, X D ρ → SAt D ρ m chs C h → RpL D ρ vs args → Run P g vs h (zc5 ro hr D ρ m chs C KS)
def SP.no {P : Program} : SP P := ⟨fun _ _ _ _ _ _ => none, fun {_ _ _ _} _ _ {_ _ _ _ _} h => by cases h⟩
structure SH (P : Program) where
 lo : List ((Nat × Nat × Nat) × Hint)
 jo : List ((Nat × Nat × Nat) × Hint)
 inl : List Nat
 ow : List Nat
 ps : List (Nat × List RP × List BP)
 own : Bool
 n : Nat
 kn : KN P
 gc : Bool
 sp : SP P
def z1t : List ((Nat × Nat × Nat) × Hint) → Nat → Nat → Nat → Option Hint
 | [], _, _, _ => none
 | (k, h) :: l, f, r, n => cond (z14 k.1 f && z14 k.2.1 r && z14 k.2.2 n) (some h) (z1t l f r n)
def findP : List (Nat × List RP × List BP) → Nat → Option (List RP × List BP)
 | [], _ => none
 | (k, h) :: l, g => cond (z14 k g) (some h) (findP l g)
def zd5 (ix : List Nat) : List Nat → Bool
 | [] => true
 | b :: l => inL ix b && zd5 ix l
def disj (hr : List Nat) : List Nat → Bool
 | [] => true
 | b :: l => !inL hr b && disj hr l
def zgo (n : Nat) : List Nat → Bool
 | [] => true
 | b :: l => z19 (b + 1) n && zgo n l
def zm2 (m : Mem) (ix : List Nat) : Mem := ix.map fun b => zob (fun b => zh9 ix b 0) (mg m b)
def datM : Mem → Mem
 | [] => []
 | a :: m => datA a :: datM m
def canonK (ix : List Nat) (t : List V) (m : Mem) (K : List V → Mem → Prop) : Prop :=
 cond (zd5 ix (zam t) && zd5 ix (ix.flatMap fun b => za5 (mg m b)) && zgo m.length ix) (K (zd8 (fun b => zh9 ix b 0) t) (zm2 m ix)) False
def zdh (n : Nat) (K : List V → Mem → Prop) (t : List V) (m : Mem) : Prop :=
 cond (z19 m.length (n + 1)) (K t m) (canonK (clo m 1000 (zam t ++ (m.take n).flatMap za5) (z2b n)) t m K)
def dup2 (A : Prop) : Prop := A ∧ A
def callQ (P : Program) (kn : KN P) (g : FuncId) (m : Mem) (a : List V) (Q : V → Mem → Prop) : Prop :=
 match kn.f g m a with
 | some r => Q r.1 r.2
 | none => PRun P g m a Q
def callT (P : Program) (kn : KN P) (ro hr : List Nat) (g : FuncId) (ix : List Nat) (rs : List RP) (bs : List BP) (as' : List V) (m1 : Mem) (K : V → Mem → Prop) : Prop :=
 cond (disj hr ix && zgo m1.length ix && zd5 ix (zam as') && zd5 ix (ix.flatMap fun b => za5 (mg m1 b)) && z14 bs.length ix.length)
  (callQ P kn g (datM (zm2 m1 ix)) (zd8 (fun b => zh9 ix b 0) as') (post rs bs (mkP _ fun is =>
   roEq ro m1 (reB (zw7 ix) (reR (zw7 ix) (zcw m1 ix) rs is).2.2 bs ix (reR (zw7 ix) (zcw m1 ix) rs is).2.1) ix
    (K (oneR rs (reR (zw7 ix) (zcw m1 ix) rs is).1) (reB (zw7 ix) (reR (zw7 ix) (zcw m1 ix) rs is).2.2 bs ix (reR (zw7 ix) (zcw m1 ix) rs is).2.1))))) False
def patsA (m1 : Mem) (as' : List V) (ix : List Nat) : List BP := ix.map fun b => patA (zm2 m1 ix) (inL (zam as') b) (zob (fun b => zh9 ix b 0) (mg m1 b))
def callS (P : Program) (H : SH P) (ro hr : List Nat) (fn : Func) (g : FuncId) (args : List V) (m : Mem) (K : V → Mem → Prop) : Prop :=
 match cond (inL H.ow g) (some (zmc P fn.params.toList args, m)) (frzL (hr ++ ro) m (zmc P fn.params.toList args)) with
 | none => False
 | some (as', m1) => match findP H.ps g with
   | some ps => callT P H.kn ro hr g (clo m1 1000 (zam as') []) ps.1 ps.2 as' m1 K
   | none => callT P H.kn ro hr g (clo m1 1000 (zam as') []) (fn.resultTypes.toList.map (patT P)) (patsA m1 as' (clo m1 1000 (zam as') [])) as' m1 K
abbrev zet := Ex → List V → Mem → Prop
def zs2 (K : List V → Mem → Prop) (Q : zet) : zet
 | .nrm, t, h => K t h
 | .ext i, t, h => Q (.ext i) t h
 | .ret, t, h => Q .ret t h
def zwo (id : Nat) (Q : zet) : zet
 | .nrm, t, h => Q .nrm t h
 | .ext j, t, h => cond (z14 j id) (Q .nrm t h) (Q (.ext j) t h)
 | .ret, t, h => Q .ret t h
def resL (P : Program) : List ResultVar → List V → Mem → (List V → Prop) → Prop
 | [], _, _, K => K []
 | .tmp i :: l, t, m, K => resL P l t m fun vs => K (zc7 t i :: vs)
 | .cell i T :: l, t, m, K => zwz P T (zc7 t i) m fun v => resL P l t m fun vs => K (v :: vs)
def zx9 (P : Program) (gc : Bool) (fn : Func) (K : V → Mem → Prop) : zet
 | .ext _, _, _ => False
 | _, t, m => resL P fn.results.toList t m fun vs => K (oneV (zdv P gc fn.resultTypes.toList vs)) m
def zd2 (P : Program) (gc : Bool) (fn : Func) (args : List V) : List V := zdv P gc fn.params.toList args ++ z2g (fn.ntmps - args.length) .z
abbrev retS (P : Program) (fn : Func) (K : V → Mem → Prop) : zet := zx9 P false fn K
abbrev z1q (P : Program) (fn : Func) (args : List V) : List V := zd2 P false fn args
abbrev zx3 := Nat → List Nat → List Nat → Code → zet → List V → Mem → Prop
def wkV : V → V
 | .nl s => .c s []
 | x => x
def gcQ (gc : Option Nat) (K : V → Mem → Prop) (x : V) (m : Mem) : Prop :=
 match gc with
 | some n => zdh n (fun t m2 => K (zc7 t 0) m2 ∨ K (wkV (zc7 t 0)) m2) [x] m
 | none => K x m
def zi4 (P : Program) (H : SH P) (self : zx3) (ro hr : List Nat) : zb2 := fun g args m K =>
 match P.funcs[g]? with
 | none => False
 | some fn => cond (inL H.inl g)
  (match fn.body with
   | none => False
   | some c => cond (fn.name == "runtime.NumGoroutine") False (self g ro hr c (zx9 P H.gc fn (gcQ (cond H.gc (some m.length) none) K)) (zd2 P H.gc fn args) m))
  (callS P H ro hr fn g args m K)
def zt8 (P : Program) (H : SH P) (self : zx3) (ro hr : List Nat) : zb2 := fun g args m K =>
 match H.sp.f (hr ++ ro) (zi4 P H self ro hr) g args m K with
 | some p => p
 | none => zi4 P H self ro hr g args m K
def gcT (gc : Option Nat) (K : List V → Mem → Prop) (t : List V) (m : Mem) : Prop :=
 match gc with
 | some n => zdh n K t m
 | none => K t m
def rnds (gc : Option Nat) (step : zet → List V → Mem → Prop) (Q : zet) : Nat → List V → Mem → Prop
 | 0, _, _ => False
 | n + 1, t, m => step (zs2 (gcT gc (rnds gc step Q n)) Q) t m
inductive YC where
 | out | rd | it (b : Nat) (f : List Nat → List Nat → List V → Mem → (V → Mem → Prop) → Prop)
abbrev zsl := YC → zx3
def YC.sub : YC → YC
 | .it b f => .it b f
 | _ => .out
def YC.h (Y : YC) (ro hr : List Nat) (b : Nat) (args : List V) (m : Mem) (K : V → Mem → Prop) : Prop :=
 match Y with
 | .it b' f => cond (z14 b b') (f ro hr args m K) False
 | _ => False
def setA : List V → List Tmp → List V → List V
 | t, p :: ps, v :: vs => setA (zjs t p v) ps vs
 | t, _, _ => t
def isY (a : AB) (K : Prop) : Prop :=
 match a with
 | .tk => K
 | _ => False
theorem z1g {a : AB} {K : Prop} (h : isY a K) : a = .tk ∧ K := by
 cases a <;> first | exact ⟨rfl, h⟩ | exact h.elim
def noEx (c : Code) : Bool := match zc0 c with | [] => true | _ => false
def vcC (P : Program) (H : SH P) (self : zsl) (fi : Nat) : Code → YC → List Nat → List Nat → zet → List V → Mem → Prop
 | .skip, _, _, _, Q, t, m => Q .nrm t m
 | .region _ ops d, Y, hr, ro, Q, t, m =>
   cond (ops.toList.all fun o => !zbf o) (cond d (cond (zhr ops.toList ops.toList.length [] && Region.noSelect ops.toList.toArray) (zmr P H.gc ro hr (zt8 P H (self Y.sub) ro) ops.toList (zdh m.length (Q .nrm)) ops.toList.length [] [] t m) False)
    (zor P H.gc (hr ++ ro) (zt8 P H (self Y.sub) ro hr) (Y.h ro hr) ops.toList (Q .nrm) ops.toList t m)) False
 | .seq x y, Y, hr, ro, Q, t, m =>
   match z1t H.jo fi (zaf y) m.length with
   | none => vcC P H self fi x Y hr ro (zs2 (vcC P H self fi y Y hr ro Q) Q) t m
   | some h => cond (disj (hr ++ ro) (h.tk t m) && zgo m.length (h.bl.map (·.1))) (
     ∀ k : PtT Prop h.ps, allP h.ps (zipP (fun (A B : Prop) => A → B) h.ps (mkP h.ps fun is => vcC P H self fi y Y hr ro Q (h.st (zaw x) t m is).1 (h.st (zaw x) t m is).2) k) →
       vcC P H self fi x Y hr (zx8 (h.base t m) 0 ++ ro) (zs2 (fun t' m' => h.el (h.base t m) k t' m') Q) t m) False
 | .cond c x y, Y, hr, ro, Q, t, m => match evS t c with
   | .u (.b b) => cond b (vcC P H self fi x Y hr ro Q t m) (vcC P H self fi y Y hr ro Q t m)
   | _ => False
 | .block id c, Y, hr, ro, Q, t, m => vcC P H self fi c Y hr ro (zwo id Q) t m
 | .loop c, Y, hr, ro, Q, t, m =>
   match z1t H.lo fi (zaf c) m.length with
   | none => rnds (cond H.gc (some m.length) none) (fun Q => vcC P H self fi c Y hr ro Q) Q H.n t m
   | some h => cond (disj (hr ++ ro) (h.tk t m) && zgo m.length (h.bl.map (·.1))) (
     ∃ (I : PtT Prop h.ps) (f : PtT Nat h.ps), h.el (h.base t m) I t m ∧
       allP h.ps (zipP (fun (A B : Prop) => A → B) h.ps I (zipP (fun (n : Nat) (B : Nat → Prop) => B n) h.ps f (mkP h.ps fun is n =>
        vcC P H self fi c Y hr (zx8 (h.base t m) 0 ++ ro) (zs2 (fun t' m' => h.el (h.base t m) (zipP (fun (A : Prop) n' => A ∧ n' < n) h.ps I f) t' m') Q) (h.st (zaw c) t m is).1 (h.st (zaw c) t m is).2)))) False
 | .exit id, _, _, _, Q, t, m => Q (.ext id) t m
 | .ret, _, _, _, Q, t, m => Q .ret t m
 | .scope c, Y, hr, ro, Q, t, m => vcC P H self fi c Y hr ro Q t m
 | .label _, _, _, _, Q, t, m => Q .nrm t m
 | .rangeFunc g ps assign body, .out, hr, ro, Q, t, m =>
   match evS t g with
   | .f gi as' cs => match P.funcs[gi]? with
     | none => False
     | some fn => match fn.body with
       | none => False
       | some c => cond (fn.name == "runtime.NumGoroutine" || !noEx body) False (
         self (.it m.length fun ro' hr' args m1 K => isY (mg m1 m.length) (cond (z14 args.length ps.size) (vcC P H self fi assign .rd hr' ro'
          (zs2 (fun t2 m2 => vcC P H self fi body .rd hr' ro' (fun e _ m3 => match e, mg m3 m.length with
           | .nrm, .x => K (.u (.b true)) (ms m3 m.length .tk)
           | _, _ => False) t2 m2) fun _ _ _ => False) (setA t ps.toList args) (ms m1 m.length .x)) False))
          gi ro hr c (zx9 P H.gc fn fun _ m' => isY (mg m' m.length) (Q .nrm t (ms m' m.length .x))) (zd2 P H.gc fn (as' ++ [.y m.length] ++ cs)) (m ++ [.tk]))
   | _ => False
 | _, _, _, _, _, _, _ => False
def runS (P : Program) (H : SH P) : Nat → zsl
 | 0, _, _, _, _, _, _, _, _ => False
 | n + 1, Y, fi, ro, hr, c, Q, t, m => vcC P H (runS P H n) fi c Y hr ro Q t m
def endT (Q : V → Mem → Prop) (x : V) (m : Mem) (ix : List Nat) : Prop :=
 cond (zd5 ix (zae x) && zd5 ix (ix.flatMap fun b => za5 (mg m b)) && zgo m.length ix) (Q (zcf (fun b => zh9 ix b 0) x) (zm2 m ix)) False
def frzX (own : Bool) (m : Mem) : V → Option (V × Mem)
 | .t l => cond own (some (.t l, m)) (match frzL [] m l with | some (l', m1) => some (.t l', m1) | none => none)
 | x => cond own (some (x, m)) (frzV [] m x)
def endS (own : Bool) (n : Nat) (Q : V → Mem → Prop) (x : V) (m : Mem) : Prop :=
 match frzX own m x with
 | none => False
 | some (x1, m1) => endT Q x1 m1 (clo m1 1000 (zae x1 ++ (m1.take n).flatMap za5) (z2b n))
def zp8 (P : Program) (H : SH P) (n : Nat) (f : FuncId) (fn : Func) (m : Mem) (args : List V) (Q : V → Mem → Prop) : Prop :=
 match fn.body with
 | none => False
 | some c => runS P H n .out f [] [] c (retS P fn (endS H.own m.length Q)) (z1q P fn args) m
section
variable {P : Program} {D D' : Fz} {ρ : List Loc} {m : Mem} {chs C : List zab} {h : zac} {T : List Value} {t : List V}
theorem zan {α : Type} {l s : List α} {i : Nat} {x : α} (h : l[i]? = some x) : (l ++ s)[i]? = some x := by
 rw [z2k (z2a.1 h).1]; exact h
theorem MRel.mono {ag : Bool} {m : MV} {rows : List (MK × List U)} (hr : MRel D ag m rows) (l : Le D D') : MRel D' ag m rows := by
 induction hr with
 | nil => exact .nil
 | cons a b _ ih => exact .cons (a.mono l) b ih
section
variable (l : Le D D') (s : List Loc)
include l
theorem Rp.mono {v : Value} {x : V} (hr : Rp D ρ v x) : Rp D' (ρ ++ s) v x :=
 @Rp.rec D ρ (fun v x _ => Rp D' (ρ ++ s) v x) (fun vs xs _ => RpL D' (ρ ++ s) vs xs) (fun vs xs _ => RpC D' (ρ ++ s) vs xs)
  (fun h => .u (h.mono l)) (fun h => .r (zan h)) (fun h1 h2 h3 h4 => .e (zan h1) h2 h3 h4) (fun h1 h2 h3 => .g (zan h1) h2 h3) (fun h1 h2 n => .q (h1.mono l) h2 n) (fun h => .w (zan h)) (fun h => .c (h.mono l))
  (fun h => .m (zan h)) .nm .nl (fun _ _ a b => .f a b) (fun _ a => .a a) (fun _ a => .t a) .z (fun h => .y (zan h)) (fun h1 h2 h3 h4 h5 h6 h7 => .v (zan h1) h2 h3 h4 h5 h6 h7) (fun h1 h2 h3 => .sl (zan h1) h2 h3) .nil (fun _ _ a b => .cons a b) .nil (fun _ hn _ a b => .cons a hn b) (fun hl _ a => .n hl a) v x hr
theorem RpL.mono {v : List Value} {x : List V} (hr : RpL D ρ v x) : RpL D' (ρ ++ s) v x :=
 @RpL.rec D ρ (fun v x _ => Rp D' (ρ ++ s) v x) (fun vs xs _ => RpL D' (ρ ++ s) vs xs) (fun vs xs _ => RpC D' (ρ ++ s) vs xs)
  (fun h => .u (h.mono l)) (fun h => .r (zan h)) (fun h1 h2 h3 h4 => .e (zan h1) h2 h3 h4) (fun h1 h2 h3 => .g (zan h1) h2 h3) (fun h1 h2 n => .q (h1.mono l) h2 n) (fun h => .w (zan h)) (fun h => .c (h.mono l))
  (fun h => .m (zan h)) .nm .nl (fun _ _ a b => .f a b) (fun _ a => .a a) (fun _ a => .t a) .z (fun h => .y (zan h)) (fun h1 h2 h3 h4 h5 h6 h7 => .v (zan h1) h2 h3 h4 h5 h6 h7) (fun h1 h2 h3 => .sl (zan h1) h2 h3) .nil (fun _ _ a b => .cons a b) .nil (fun _ hn _ a b => .cons a hn b) (fun hl _ a => .n hl a) v x hr
theorem RpC.mono {v : List Value} {x : List V} (hr : RpC D ρ v x) : RpC D' (ρ ++ s) v x :=
 @RpC.rec D ρ (fun v x _ => Rp D' (ρ ++ s) v x) (fun vs xs _ => RpL D' (ρ ++ s) vs xs) (fun vs xs _ => RpC D' (ρ ++ s) vs xs)
  (fun h => .u (h.mono l)) (fun h => .r (zan h)) (fun h1 h2 h3 h4 => .e (zan h1) h2 h3 h4) (fun h1 h2 h3 => .g (zan h1) h2 h3) (fun h1 h2 n => .q (h1.mono l) h2 n) (fun h => .w (zan h)) (fun h => .c (h.mono l))
  (fun h => .m (zan h)) .nm .nl (fun _ _ a b => .f a b) (fun _ a => .a a) (fun _ a => .t a) .z (fun h => .y (zan h)) (fun h1 h2 h3 h4 h5 h6 h7 => .v (zan h1) h2 h3 h4 h5 h6 h7) (fun h1 h2 h3 => .sl (zan h1) h2 h3) .nil (fun _ _ a b => .cons a b) .nil (fun _ hn _ a b => .cons a hn b) (fun hl _ a => .n hl a) v x hr
theorem Ent.mono {L : Loc} {ab : AB} {ch : zab} (hr : Ent D ρ L ab ch) : Ent D' (ρ ++ s) L ab ch := by
 cases hr with
 | c h => exact .c (h.mono l s)
 | w o h => exact .w (o.mono l) h
 | o h => exact .o (I := _) (Ob.mono _ h l)
 | p a b c => exact .p a (b.mono l) c
 | tk h => exact .tk h
 | x => exact .x
 | cw a b h c d e => exact .cw a b (h.mono l s) c d e
end
theorem RpL.get (F : RpL D ρ T t) (i : Nat) : Rp D ρ (zc6 T i) (zc7 t i) := by
 induction t generalizing T i with
 | nil => cases F; exact .z
 | cons x t ih =>
   cases F with
   | cons a b => cases i with
     | zero => exact a
     | succ i => exact ih b i
theorem RpL.set {v : Value} {x : V} (F : RpL D ρ T t) (i : Nat) (hv : Rp D ρ v x) : RpL D ρ (zmn T i v) (zjs t i x) := by
 induction t generalizing T i with
 | nil => cases F; exact .nil
 | cons y t ih =>
   cases F with
   | cons a b => cases i with
     | zero => exact .cons hv b
     | succ i => exact .cons a (ih b i)
theorem RpL.put {v : Value} {x : V} {d : Option Tmp} (F : RpL D ρ T t) (hv : Rp D ρ v x) : RpL D ρ (ztv T d v) (zso t d x) := by
 cases d with
 | none => exact F
 | some i => exact F.set i hv
theorem RpL.len' {vs : List Value} {xs : List V} (F : RpL D ρ vs xs) : vs.length = xs.length := by
 induction xs generalizing vs with
 | nil => cases F; rfl
 | cons x xs ih => cases F with | cons a b => simp [ih b]
theorem RpL.at {vs : List Value} {xs : List V} (F : RpL D ρ vs xs) {i : Nat} {v : Value} (h : vs[i]? = some v) : Rp D ρ v (zc7 xs i) := by
 induction xs generalizing vs i with
 | nil => cases F; simp at h
 | cons x xs ih => cases F with
   | cons a b => cases i with
     | zero => simp at h; subst h; exact a
     | succ i => exact ih b (by simpa using h)
theorem RpL.app {vs ws : List Value} {xs ys : List V} (F : RpL D ρ vs xs) (G : RpL D ρ ws ys) : RpL D ρ (vs ++ ws) (xs ++ ys) := by
 induction xs generalizing vs with
 | nil => cases F; exact G
 | cons x xs ih => cases F with | cons a b => exact .cons a (ih b)
theorem RpC.app {vs ws : List Value} {xs ys : List V} (F : RpC D ρ vs xs) (G : RpC D ρ ws ys) : RpC D ρ (vs ++ ws) (xs ++ ys) := by
 induction xs generalizing vs with
 | nil => cases F; exact G
 | cons x xs ih => cases F with
   | cons a n b => exact .cons a n (ih b)
   | n hl b => rw [z2m]; exact .n hl (ih b)
theorem zvk (v : Value) : Rp D ρ v (zq3 v) ∧ ∀ k w l, zq3 v ≠ .n k w l := by
 unfold zq3
 split <;> first
  | exact ⟨.u (.int _ _), by simp⟩ | exact ⟨.u (.bool _), by simp⟩ | exact ⟨.u (.str _), by simp⟩ | exact ⟨.u .pn, by simp⟩ | exact ⟨.nl, by simp⟩ | exact ⟨.nm, by simp⟩ | exact ⟨.f (xs := []) (ys := []) .nil .nil, by simp⟩ | exact ⟨.z, by simp⟩
theorem zgi : ∀ (l : List Value), RpC D ρ l (l.map zq3)
 | [] => .nil
 | v :: l => .cons (zvk v).1 (zvk (D := D) (ρ := ρ) v).2 (zgi l)
theorem ofV_S (v : Value) : Rp D ρ v (ofV v) := by
 unfold ofV
 split
 · exact .a (zgi _)
 · exact (zvk _).1
theorem zcj (F : RpL D ρ T t) (x : Operand) : Rp D ρ (ev T x) (evS t x) := by
 cases x with
 | tmp i => exact F.get i
 | const v => exact ofV_S v
 | func f => exact .f (xs := []) (ys := []) .nil .nil
 | global g => exact .z
theorem zt3 (F : RpL D ρ T t) : ∀ (l : List Operand), RpL D ρ (l.map (ev T)) (l.map (evS t))
 | [] => .nil
 | x :: l => .cons (zcj F x) (zt3 F l)
theorem zlu {v a : Value} {x : V} (h : zlv x = some a) (hr : Rp D ρ v x) : v = a := by
 unfold zlv at h
 split at h <;> cases h <;> (cases hr; rename_i hr; cases hr; rfl)
theorem concL_S : ∀ {vs as' : List Value} {xs : List V}, concL xs = some as' → RpC D ρ vs xs → vs = as'
 | vs, as', [], h, hr => by cases hr; cases h; rfl
 | vs, as', x :: xs, h, hr => by
   simp only [concL] at h
   split at h
   · rename_i a as' h1 h2
     cases h
     cases hr with
     | cons a n b => rw [zlu h1 a, concL_S h2 b]
     | n hl b => simp [zlv] at h1
   · cases h
theorem conc_S {v a : Value} {x : V} (h : conc x = some a) (hr : Rp D ρ v x) : v = a := by
 unfold conc at h
 split at h
 · split at h
   · rename_i hl
     cases h
     cases hr with
     | a hc => rw [concL_S hl hc]
   · cases h
 · exact zlu h hr
theorem zl3 (v : Value) : Rp D ρ v (zea v) := by
 unfold zea
 split <;> first | exact .u (.int _ _) | exact .u (.bool _) | exact .u (.str _) | exact .z
theorem zc1 {l r : List V} : ∀ {o : Nat} {vs : List Value}, zbu o l = some r → RpC D ρ vs l → ∃ p s, vs = p ++ s ∧ p.length = o ∧ RpC D ρ s r := by
 induction l with
 | nil =>
   intro o vs h hr
   cases o with
   | zero => simp only [zbu, Option.some.injEq] at h; subst h; exact ⟨[], vs, rfl, rfl, hr⟩
   | succ o => simp [zbu] at h
 | cons x l ih =>
   intro o vs h hr
   cases o with
   | zero => simp only [zbu, Option.some.injEq] at h; subst h; exact ⟨[], vs, rfl, rfl, hr⟩
   | succ o =>
     simp only [zbu] at h
     cases hc : (z19 (wd x) (o + 1) && !z14 (wd x) 0) with
     | false => rw [hc] at h; cases h
     | true =>
       rw [hc] at h
       simp only [z17] at hc
       have hle := z2w hc.1
       cases hr with
       | cons a n b =>
         have hw : wd x = 1 := by cases x <;> first | rfl | exact absurd rfl (n _ _ _)
         rw [hw] at h
         obtain ⟨p, s, rfl, hp, hs⟩ := ih h b
         exact ⟨_ :: p, s, rfl, by simp at hp ⊢; omega, hs⟩
       | n hl b =>
         obtain ⟨p, s, rfl, hp, hs⟩ := ih h b
         refine ⟨_ ++ p, s, (z2m _ _ _).symm, ?_, hs⟩
         simp only [wd] at hle hp
         simp [hl, hp]; omega
theorem zon {l r : List V} : ∀ {n : Nat} {vs : List Value}, zf3 n l = some r → RpC D ρ vs l → ∃ p s, vs = p ++ s ∧ p.length = n ∧ RpC D ρ p r := by
 induction l generalizing r with
 | nil =>
   intro o vs h hr
   cases o with
   | zero => simp only [zf3, Option.some.injEq] at h; subst h; exact ⟨[], vs, rfl, rfl, .nil⟩
   | succ o => simp [zf3] at h
 | cons x l ih =>
   intro o vs h hr
   cases o with
   | zero => simp only [zf3, Option.some.injEq] at h; subst h; exact ⟨[], vs, rfl, rfl, .nil⟩
   | succ o =>
     simp only [zf3] at h
     cases hc : (z19 (wd x) (o + 1) && !z14 (wd x) 0) with
     | false => rw [hc] at h; cases h
     | true =>
       rw [hc] at h
       simp only [z17] at hc
       have hle := z2w hc.1
       simp only [cond_true] at h
       split at h
       · rename_i r' hr'
         cases h
         cases hr with
         | cons a n b =>
           have hw : wd x = 1 := by cases x <;> first | rfl | exact absurd rfl (n _ _ _)
           rw [hw] at hr'
           obtain ⟨p, s, rfl, hp, hs⟩ := ih hr' b
           exact ⟨_ :: p, s, rfl, by simp at hp ⊢; omega, .cons a n hs⟩
         | n hl b =>
           obtain ⟨p, s, rfl, hp, hs⟩ := ih hr' b
           refine ⟨_ ++ p, s, (z2m _ _ _).symm, ?_, .n hl hs⟩
           simp only [wd] at hle hp
           simp [hl, hp]; omega
       · cases h
theorem zst {l : List V} : ∀ {vs : List Value}, RpC D ρ vs l → vs.length = wds l := by
 induction l with
 | nil => intro vs h; cases h; rfl
 | cons x l ih =>
   intro vs h
   cases h with
   | cons a n b =>
     have hw : wd x = 1 := by cases x <;> first | rfl | exact absurd rfl (n _ _ _)
     simp only [wds, hw, z2o, ih b]; omega
   | n hl b => simp [wds, wd, hl, ih b]
theorem zu7 {new l r : List V} {ns : List Value} (hn : RpC D ρ ns new) : ∀ {o : Nat} {vs : List Value}, znc new o l = some r → RpC D ρ vs l → o + ns.length ≤ vs.length ∧ RpC D ρ (zar vs o ns) r := by
 have sp : ∀ (a b c : List Value), a.length = b.length → zar (a ++ c) 0 b = b ++ c := by
  intro a
  induction a with
  | nil => intro b c h; cases b with | nil => cases c <;> rfl | cons _ _ => simp at h
  | cons x a ih => intro b c h; cases b with | nil => simp at h | cons y b => simp only [z3r, zar]; rw [ih b c (by simpa using h)]
 have sp2 : ∀ (a c b : List Value) (k : Nat), zar (a ++ c) (a.length + k) b = a ++ zar c k b := by
  intro a c b k
  cases b with
  | nil => rw [zbg, zbg]
  | cons y b =>
    induction a with
    | nil => rw [z3f, z3f, z36, z2l]
    | cons x a ih => rw [z2o, show a.length + 1 + k = (a.length + k) + 1 by omega, z3r, zar, ih, z3r]
 induction l generalizing r with
 | nil =>
   intro o vs h hr
   cases o with
   | zero =>
     simp only [znc] at h
     split at h
     · rename_i r' hr'
       cases h
       obtain ⟨p, s, rfl, hp, hs⟩ := zc1 hr' hr
       rw [← zst hn] at hp
       exact ⟨by simp [hp], by rw [sp _ _ _ hp]; exact hn.app hs⟩
     · cases h
   | succ o => simp [znc] at h
 | cons x l ih =>
   intro o vs h hr
   cases o with
   | zero =>
     simp only [znc] at h
     split at h
     · rename_i r' hr'
       cases h
       obtain ⟨p, s, rfl, hp, hs⟩ := zc1 hr' hr
       rw [← zst hn] at hp
       exact ⟨by simp [hp], by rw [sp _ _ _ hp]; exact hn.app hs⟩
     · cases h
   | succ o =>
     simp only [znc] at h
     cases hc : (z19 (wd x) (o + 1) && !z14 (wd x) 0) with
     | false => rw [hc] at h; cases h
     | true =>
       rw [hc] at h
       simp only [z17] at hc
       have hle := z2w hc.1
       simp only [cond_true] at h
       split at h
       · rename_i r' hr'
         cases h
         cases hr with
         | cons a n b =>
           have hw : wd x = 1 := by cases x <;> first | rfl | exact absurd rfl (n _ _ _)
           rw [hw] at hr'
           obtain ⟨h1, h2⟩ := ih hr' b
           refine ⟨by simp at h1 ⊢; omega, ?_⟩
           cases ns with
           | nil => rw [zbg] at h2 ⊢; exact .cons a n h2
           | cons y ns => exact .cons a n h2
         | n hl b =>
           obtain ⟨h1, h2⟩ := ih hr' b
           simp only [wd] at h1 h2 hle
           refine ⟨by simp [hl]; omega, ?_⟩
           rw [show o + 1 = (z26 (Value.int _) _).length + (o + 1 - (z26 (Value.int _) _).length) by rw [z2d, hl]; omega, sp2]
           rw [z2d, hl]
           exact .n hl h2
       · cases h
theorem zrb : ∀ {m : Mem} {i : Nat}, i < m.length → m[i]? = some (mg m i)
 | [], _, h => by simp at h
 | _ :: _, 0, _ => rfl
 | _ :: m, i + 1, h => by simpa [mg] using zrb (m := m) (by simpa using h)
theorem mg_lt {m : Mem} {i : Nat} (h : mg m i ≠ .x) : i < m.length := by
 induction m generalizing i with
 | nil => exact absurd rfl h
 | cons a m ih => cases i with
   | zero => simp
   | succ i => have := ih (i := i) h; simp; omega
theorem SAt.get (M : SAt D ρ m chs C h) {b : Nat} (hb : mg m b ≠ .x) : ∃ L ch, ρ[b]? = some L ∧ chs[b]? = some ch ∧ Ent D ρ L (mg m b) ch := by
 have hlt := mg_lt hb
 have h1 : b < ρ.length := by rw [M.len]; exact hlt
 have h2 : b < chs.length := by rw [M.lch]; exact hlt
 exact ⟨ρ[b], chs[b], z2c h1, z2c h2, M.ent b _ _ _ (z2c h1) (zrb hlt) (z2c h2)⟩
theorem SAt.own (M : SAt D ρ m chs C h) {b : Nat} {ch : zab} (hc : chs[b]? = some ch) {p : Nat × Obj} (hp : p ∈ ch) : h[p.1]? = some p.2 :=
 M.st.own p (List.mem_flatten.2 ⟨ch, z2f.2 (.inl (z2y hc)), hp⟩)
def Cov (D : Fz) (chs : List zab) (bs : List Nat) (bb : Nat) (ob : Obj) : Prop := D bb = some ob ∨ ∃ b ch, inL bs b = true ∧ chs[b]? = some ch ∧ (bb, ob) ∈ ch
def Hs (D : Fz) (chs : List zab) (bs : List Nat) (w : World) : Prop := ∀ bb ob, Cov D chs bs bb ob → w.heap[bb]? = some ob
theorem SAt.hs (M : SAt D ρ m chs C h) (bs : List Nat) {w : World} (hw : w.heap = h) : Hs D chs bs w := by
 rintro bb ob (hd | ⟨b, ch, -, hc, hp⟩)
 · rw [hw]; exact (M.st.fz bb ob hd).1
 · rw [hw]; exact M.own hc hp
theorem inL_iff : ∀ {l : List Nat} {b : Nat}, inL l b = true ↔ b ∈ l
 | [], b => by simp [inL]
 | x :: l, b => by
   simp only [inL, z34, z2e, inL_iff (l := l)]
   constructor
   · rintro (h | h)
     · exact .inl (z18 h).symm
     · exact .inr h
   · rintro (rfl | h)
     · exact .inl (Nat.beq_refl _)
     · exact .inr h
end
section
variable {P : Program} {D D' : Fz} {ρ : List Loc} {m : Mem} {chs C : List zab} {h : zac} {T : List Value} {t : List V}
theorem zlh {i : Int} {n : Nat} {K : Nat → Prop} (hh : idxK i n K) : ∃ j : Nat, i = .ofNat j ∧ j < n ∧ K j := by
 unfold idxK at hh
 split at hh
 · obtain ⟨h1, h2⟩ := zaa hh
   exact ⟨_, rfl, z2w h1, h2⟩
 · exact hh.elim
theorem zen {α : Type} {l : List α} {k : Int} {K : α → Prop} (hh : elL l k K) : 0 ≤ k ∧ ∃ r, l[k.toNat]? = some r ∧ K r := by
 unfold elL at hh
 split at hh
 · rename_i i
   split at hh
   · rename_i r hr; exact ⟨z4a i, r, hr, hh⟩
   · exact hh.elim
 · exact hh.elim
theorem zos {α : Type} {o : Option α} {K : α → Prop} (hh : oP o K) : ∃ c, o = some c ∧ K c := by
 unfold oP at hh
 split at hh
 · exact ⟨_, rfl, hh⟩
 · exact hh.elim
theorem zpa {z : Value × Nat} {o : Option U} {K : U → Prop} (hh : dU z o K) : ∃ u, o = some u ∧ K u := by
 unfold dU at hh
 split at hh
 · unfold dI at hh; split at hh
   · obtain ⟨h1, h2⟩ := zek hh; subst h1; exact ⟨_, rfl, h2⟩
   · exact hh.elim
 · unfold dB at hh; split at hh
   · exact ⟨_, rfl, hh⟩
   · exact hh.elim
 · unfold dS at hh; split at hh
   · exact ⟨_, rfl, hh⟩
   · exact hh.elim
 · unfold dL at hh; split at hh
   · obtain ⟨h1, h2⟩ := zaa hh
     have := z18 h1
     subst this
     exact ⟨_, rfl, h2⟩
   · exact hh.elim
 · unfold dP at hh; split at hh
   · exact ⟨_, rfl, hh⟩
   · exact hh.elim
 · exact hh.elim
theorem zys : ∀ (l : List U) (i : Nat), ug l i = l[i]?
 | [], _ => by simp [ug]
 | _ :: _, 0 => rfl
 | _ :: l, i + 1 => by simp [ug, zys l i]
theorem zf2 : ∀ {zs : List (Value × Nat)} {r : List U} {o : Nat} {K : List U → Prop}, dUs zs r o K → ∃ us, us.length = zs.length ∧ (∀ j u, us[j]? = some u → r[o + j]? = some u) ∧ K us
 | [], r, o, K, hh => ⟨[], rfl, by simp, hh⟩
 | z :: zs, r, o, K, hh => by
   obtain ⟨u, hu, h2⟩ := zpa hh
   obtain ⟨us, hl, hg, hK⟩ := zf2 h2
   refine ⟨u :: us, by simp [hl], fun j v hv => ?_, hK⟩
   cases j with
   | zero => simp at hv; subst hv; rw [zys] at hu; simpa using hu
   | succ j => have := hg j v (by simpa using hv); rw [show o + (j + 1) = o + 1 + j by omega]; exact this
theorem RpC.ofU : ∀ {vs : List Value} {us : List U}, RdL D vs us → RpC D ρ vs (us.map .u)
 | _, _, .nil => .nil
 | _, _, .cons a b => .cons (.u a) (by simp) (RpC.ofU b)
theorem RpC.toU : ∀ {us : List U} {l : List V} {vs : List Value}, zpe l = some us → RpC D ρ vs l → RdL D vs us
 | us, [], vs, hc, hr => by cases hr; cases hc; exact .nil
 | us, x :: l, vs, hc, hr => by
   cases x with
   | u x =>
     simp only [zpe] at hc
     split at hc
     · rename_i us' hus
       cases hc
       cases hr with
       | cons a n b => cases a with | u a => exact .cons a (RpC.toU hus b)
     · cases hc
   | nl s =>
     simp only [zpe] at hc
     split at hc
     · rename_i us' hus
       cases hc
       cases hr with
       | cons a n b => cases a; exact .cons (.nil _ _ _) (RpC.toU hus b)
     · cases hc
   | _ => simp [zpe] at hc
theorem zfy {T : TypeId} {z : Value × Nat} (hl : zoy P T = some (.one z)) : zcv P T = some (.one z.1) := by
 unfold zoy at hl
 cases h1 : zcv P T with
 | none => rw [h1] at hl; simp at hl
 | some l =>
   rw [h1] at hl
   cases l with
   | one z' => cases h2 : zhh P 9 T with
     | nil => rw [h2] at hl; simp at hl
     | cons s ss => rw [h2] at hl; simp at hl; subst hl; rfl
   | many cs => cases hb : z14 cs.length (zhh P 9 T).length <;> simp [hb] at hl
theorem zdy {T : TypeId} {zs : List (Value × Nat)} (hl : zoy P T = some (.many zs)) : ∃ cs, zcv P T = some (.many cs) ∧ cs.length = zs.length := by
 unfold zoy at hl
 cases h1 : zcv P T with
 | none => rw [h1] at hl; simp at hl
 | some l =>
   rw [h1] at hl
   cases l with
   | one z' => cases h2 : zhh P 9 T with
     | nil => rw [h2] at hl; simp at hl
     | cons s ss => rw [h2] at hl; simp at hl
   | many cs => cases hb : z14 cs.length (zhh P 9 T).length with
     | false => simp [hb] at hl
     | true =>
       simp [hb] at hl; subst hl
       have := z18 hb
       exact ⟨cs, rfl, by simp [this]⟩
theorem zge {S : TypeId} {z : Value} (hl : zcv P S = some (.one z)) {b o : Nat} {v : Value} {w : World} (hc : hcell w.heap ⟨b, o, none⟩ = some v) : (loadVar S ⟨b, o, none⟩).run P w = .ok v w := by
 obtain ⟨ha, -, -⟩ := zdz hl
 have hv' : w.cell? ⟨b, o, none⟩ = some v := hc
 simp [loadVar, ha, Go.load, Sem.run, hv']
theorem zs7 {S : TypeId} {cs : List Value} (hl : zcv P S = some (.many cs)) {b o : Nat} {vs : List Value} {w : World} (hn : vs.length = cs.length) (hc : ∀ j v, vs[j]? = some v → hcell w.heap ⟨b, o + j, none⟩ = some v) :
 (loadVar S ⟨b, o, none⟩).run P w = .ok (.agg vs.toArray) w := by
 obtain ⟨ha, i, hi, hs⟩ := zcq hl
 have hr : (loadCells ⟨b, o, none⟩ vs.length).run P w = .ok vs.toArray w :=
  run_loadCells_list (P := P) w ⟨b, o, none⟩ vs (fun j v hv => by rw [za1]; exact hc j v hv)
 simp [loadVar, ha, zao hi, hs, ← hn, hr]
theorem zzf {S : TypeId} {z : Value} (hl : zcv P S = some (.one z)) {xs : Array Value} {i : Nat} {v : Value} (hc : xs[i]? = some v) (w : World) : (part S xs i).run P w = .ok v w := by
 obtain ⟨ha, -, -⟩ := zdz hl
 simp only [part, Sem.run_bind, ha, z2h, z3n, if_false, hc]
 rfl
theorem zze {S : TypeId} {cs : List Value} (hl : zcv P S = some (.many cs)) {p vs s : List Value} (hn : vs.length = cs.length) (w : World) :
 (part S (p ++ (vs ++ s)).toArray p.length).run P w = .ok (.agg vs.toArray) w := by
 obtain ⟨ha, i, hi, hs⟩ := zcq hl
 simp only [part, Sem.run_bind, ha, z2h, if_true, zao hi, Sem.run_pure]
 congr 2
 simp [hs, ← hn]
theorem Rd.pp_iff {p o : Nat} {c : List U} (hr : Rd D (.pointer (some ⟨p, o, none⟩)) (.p (some c))) : ∃ (arr : Array Value) (S : TypeId) (f : Nat × Nat) (v : Nat → Value), D p = some (.cells arr S f) ∧
 (∀ j u, c[j]? = some u → arr[o + j]? = some (v j)) ∧ ∀ j u, c[j]? = some u → Rd D (v j) u := by
 cases hr with
 | pp b o arr S f us v h1 h2 h3 => exact ⟨arr, S, f, v, h1, h2, h3⟩
theorem zcx {w : World} {b : Nat} {c : Array Value} {e : TypeId} {f : Nat × Nat} (hb : w.heap[b]? = some (.cells c e f)) (o : Nat) : hcell w.heap ⟨b, o, none⟩ = c[o]? := zaz hb o
theorem load1_S {S : TypeId} {z : Value × Nat} (hl : zoy P S = some (.one z)) {a : V} {va : Value} {KS : V → Prop} (hs : zlc z a m KS) (M : SAt D ρ m chs C h) (ha : Rp D ρ va a) {bs : List Nat} (hbs : ∀ b, b ∈ zae a → inL bs b = true) :
 ∃ bb oo v x, va = .pointer (some ⟨bb, oo, none⟩) ∧ KS x ∧ Rp D ρ v x ∧ ∀ w, Hs D chs bs w → (loadVar S ⟨bb, oo, none⟩).run P w = .ok v w := by
 have hl := zfy hl
 cases a with
 | r b o =>
   simp only [zlc] at hs
   split at hs
   · rename_i cells hm
     obtain ⟨L, ch, h1, h2, h3⟩ := M.get (b := b) (by rw [hm]; simp)
     rw [hm] at h3
     cases h3 with
     | c hc =>
       rename_i arr S'
       split at hs
       · rename_i v l hd
         obtain ⟨hk, hK⟩ := zaa hs
         obtain ⟨p, s, rfl, hp, hr⟩ := zc1 hd hc
         cases ha with
         | r ha =>
           rw [h1] at ha; cases ha
           cases hr with
           | cons x n y =>
             refine ⟨_, _, _, _, rfl, hK, x, fun w hw => zge hl ?_⟩
             rw [zcx (hw L.b _ (.inr ⟨b, _, hbs b (by simp [zae]), h2, z2x _⟩))]
             simp [← hp]
           | n hl' y => simp [zsp] at hk
       · exact hs.elim
   · exact hs.elim
 | g b o w k =>
   simp only [zlc] at hs
   split at hs
   · rename_i cells hm
     obtain ⟨L, ch, h1, h2, h3⟩ := M.get (b := b) (by rw [hm]; simp)
     rw [hm] at h3
     cases h3 with
     | c hc =>
       rename_i arr S'
       split at hs
       · rename_i k' w' l r hd
         obtain ⟨hk, hK⟩ := zaa hs
         simp only [z17] at hk
         obtain ⟨p, s, rfl, hp, hr⟩ := zc1 hd hc
         obtain ⟨h0, n, hn, hK⟩ := zen hK
         have hk3 : k' = .i64 := by
          cases k' <;> first | rfl | (have := hk.1.2; simp [zap] at this)
         subst hk3
         cases ha with
         | g ha =>
           rw [h1] at ha; cases ha
           cases hr with
           | cons x n y => exact absurd rfl (n _ _ _)
           | n hl' y =>
             refine ⟨_, _, .int .i64 n, _, rfl, hK, .u (.int _ _), fun w hw => zge hl ?_⟩
             rw [zcx (hw L.b _ (.inr ⟨b, _, hbs b (by simp [zae]), h2, z2x _⟩))]
             simp only [z3o]
             rw [z2t (by omega), hp, show o + k.toNat - o = k.toNat by omega]
             exact zan (by simp [hn])
       · exact hs.elim
   · exact hs.elim
 | e b sz k o =>
   simp only [zlc] at hs
   split at hs
   · rename_i E sz' rows hm
     obtain ⟨L, ch, h1, h2, h3⟩ := M.get (b := b) (by rw [hm]; simp)
     rw [hm] at h3
     obtain ⟨hk, hK⟩ := zaa hs
     have := z18 hk
     subst this
     obtain ⟨h0, r, hr, hK⟩ := zen hK
     obtain ⟨u, hu, hK⟩ := zpa hK
     rw [zys] at hu
     cases ha with
     | e ha hL hk0 hk1 =>
       rename_i p q L'
       rw [h1] at ha; cases ha
       cases h3 with
       | w own hn =>
         generalize hA : L.a = A at *
         subst hL
         cases own with
         | row bb c arr rows v g1 g2 g3 g4 g5 =>
           refine ⟨_, _, _, _, rfl, hK, .u (g5 _ _ _ _ hr hu), fun w hw => zge hl ?_⟩
           rw [zcx (hw _ _ (.inr ⟨b, _, hbs b (by simp [zae]), h2, z2x _⟩)), z2l]
           exact g4 _ _ _ _ hr hu
   · rename_i E sz' n cells hm
     obtain ⟨L, ch, h1, h2, h3⟩ := M.get (b := b) (by rw [hm]; simp)
     rw [hm] at h3
     obtain ⟨hk, hs2⟩ := zaa hs
     have := z18 hk
     subst this
     cases ha with
     | e ha hL hk0 hk1 =>
       rename_i p q L'
       rw [h1] at ha; cases ha
       cases h3 with
       | cw hA hN hc hlen h5 h6 =>
         rw [hA] at hL; cases hL
         split at hs2
         · rename_i v l hd
           obtain ⟨hk, hK⟩ := zaa hs2
           obtain ⟨pp, s, rfl, hp, hr⟩ := zc1 hd hc
           cases hr with
           | cons x n y =>
             refine ⟨_, _, _, _, rfl, hK, x, fun w hw => zge hl ?_⟩
             rw [zcx (hw _ _ (.inr ⟨b, _, hbs b (by simp [zae]), h2, z2x _⟩)), z2l, ← hp]
             simp
           | n hl' y => simp [zsp] at hk
         · exact hs2.elim
   · exact hs.elim
 | q c o =>
   simp only [zlc] at hs
   obtain ⟨u, hu, hK⟩ := zpa hs
   rw [zys] at hu
   cases ha with
   | q hr ho =>
     rename_i p o1 o2
     subst ho
     obtain ⟨arr, S', f, v, g1, g2, g3⟩ := hr.pp_iff
     refine ⟨_, _, _, _, rfl, hK, .u (g3 _ _ hu), fun w hw => zge hl ?_⟩
     rw [zcx (hw _ _ (.inl g1))]
     exact g2 _ _ hu
 | u x =>
   cases x with
   | p p =>
     simp only [zlc] at hs
     obtain ⟨c, rfl, hs2⟩ := zos hs
     obtain ⟨u, hu, hK⟩ := zpa hs2
     rw [zys] at hu
     cases ha with
     | u hr =>
       cases hr with
       | pp b o arr S' f us v g1 g2 g3 =>
         refine ⟨_, _, _, _, rfl, hK, .u (g3 _ _ hu), fun w hw => zge hl ?_⟩
         rw [zcx (hw _ _ (.inl g1))]
         exact g2 _ _ hu
   | _ => simp only [zlc] at hs
 | _ => simp only [zlc] at hs
theorem RdL.mk {us : List U} (f : Nat → Value) (hf : ∀ j u, us[j]? = some u → Rd D (f j) u) : RdL D ((z2b us.length).map f) us := RdL.of_get f hf
theorem rmap {f : Nat → Value} {n j : Nat} {v : Value} (hj : ((z2b n).map f)[j]? = some v) : j < n ∧ v = f j := by
 rw [z2i] at hj
 obtain ⟨i, hi, rfl⟩ := z3k.1 hj
 obtain ⟨h1, h2⟩ := z2a.1 hi
 simp at h1 h2
 subst h2
 exact ⟨h1, rfl⟩
theorem loadN_S {S : TypeId} {zs : List (Value × Nat)} (hl : zoy P S = some (.many zs)) {a : V} {va : Value} {KS : V → Prop} (hs : zmo zs a m KS) (M : SAt D ρ m chs C h) (ha : Rp D ρ va a) {bs : List Nat} (hbs : ∀ b, b ∈ zae a → inL bs b = true) :
 ∃ bb oo v x, va = .pointer (some ⟨bb, oo, none⟩) ∧ KS x ∧ Rp D ρ v x ∧ ∀ w, Hs D chs bs w → (loadVar S ⟨bb, oo, none⟩).run P w = .ok v w := by
 obtain ⟨cs, hl, hn⟩ := zdy hl
 -- a row of cells that is frozen, or one's own
 have fin : ∀ {us : List U} {bb oo : Nat} (f : Nat → Value), us.length = zs.length → (∀ j u, us[j]? = some u → Rd D (f j) u) → (∀ j u, us[j]? = some u → ∀ w, Hs D chs bs w → hcell w.heap ⟨bb, oo + j, none⟩ = some (f j)) → KS (.a (us.map .u)) →
  ∃ v x, KS x ∧ Rp D ρ v x ∧ ∀ w, Hs D chs bs w → (loadVar S ⟨bb, oo, none⟩).run P w = .ok v w := by
  intro us bb oo f h1 h2 h3 hK
  refine ⟨_, _, hK, .a (.ofU (RdL.mk f h2)), fun w hw => zs7 hl (by simp [h1, hn]) fun j v hv => ?_⟩
  obtain ⟨hj, rfl⟩ := rmap hv
  exact h3 j us[j] (z2c hj) w hw
 cases a with
 | r b o =>
   simp only [zmo] at hs
   split at hs
   · rename_i cells hm
     obtain ⟨L, ch, h1, h2, h3⟩ := M.get (b := b) (by rw [hm]; simp)
     rw [hm] at h3
     cases h3 with
     | c hc =>
       rename_i arr S'
       split at hs
       · rename_i l hd
         split at hs
         · rename_i vs hv
           obtain ⟨hk, hK⟩ := zaa hs
           obtain ⟨p, s, rfl, hp, hr⟩ := zc1 hd hc
           obtain ⟨p2, s2, rfl, hp2, hr⟩ := zon hv hr
           cases ha with
           | r ha =>
             rw [h1] at ha; cases ha
             refine ⟨_, _, _, _, rfl, hK, .a hr, fun w hw => zs7 hl (by rw [hp2, hn]) fun j v hv => ?_⟩
             rw [zcx (hw L.b _ (.inr ⟨b, _, hbs b (by simp [zae]), h2, z2x _⟩))]
             simp only [z3o]
             rw [z2t (by omega), show o + j - p.length = j by omega]
             exact zan hv
         · exact hs.elim
       · exact hs.elim
   · exact hs.elim
 | e b sz k o =>
   simp only [zmo] at hs
   split at hs
   · rename_i E sz' rows hm
     obtain ⟨L, ch, h1, h2, h3⟩ := M.get (b := b) (by rw [hm]; simp)
     rw [hm] at h3
     obtain ⟨hk, hK⟩ := zaa hs
     have := z18 hk
     subst this
     obtain ⟨h0, r, hr, hK⟩ := zen hK
     obtain ⟨us, hu1, hu2, hK⟩ := zf2 hK
     cases ha with
     | e ha hL hk0 hk1 =>
       rename_i p q L'
       rw [h1] at ha; cases ha
       cases h3 with
       | w own hn =>
         generalize hA : L.a = A at *
         subst hL
         cases own with
         | row bb c arr rows v g1 g2 g3 g4 g5 =>
           obtain ⟨v', x, a1, a2, a3⟩ := fin (bb := p) (oo := 0 + k.toNat * sz + o) (fun j => v k.toNat (o + j)) hu1 (fun j u hj => g5 _ _ _ _ hr (hu2 j u hj)) (fun j u hj w hw => by
            rw [zcx (hw _ _ (.inr ⟨b, _, hbs b (by simp [zae]), h2, z2x _⟩)), z2l, z30]
            exact g4 _ _ _ _ hr (hu2 j u hj)) hK
           exact ⟨_, _, v', x, rfl, a1, a2, a3⟩
   · rename_i E sz' n' cells hm
     obtain ⟨L, ch, h1, h2, h3⟩ := M.get (b := b) (by rw [hm]; simp)
     rw [hm] at h3
     obtain ⟨hk, hs2⟩ := zaa hs
     have := z18 hk
     subst this
     cases ha with
     | e ha hL hk0 hk1 =>
       rename_i p q L'
       rw [h1] at ha; cases ha
       cases h3 with
       | cw hA hN hc hlen h5 h6 =>
         rw [hA] at hL; cases hL
         split at hs2
         · rename_i l hd
           split at hs2
           · rename_i vs hv
             obtain ⟨hk, hK⟩ := zaa hs2
             obtain ⟨p, s, rfl, hp, hr⟩ := zc1 hd hc
             obtain ⟨p2, s2, rfl, hp2, hr⟩ := zon hv hr
             refine ⟨_, _, _, _, rfl, hK, .a hr, fun w hw => zs7 hl (by rw [hp2, hn]) fun j v hv => ?_⟩
             rw [zcx (hw _ _ (.inr ⟨b, _, hbs b (by simp [zae]), h2, z2x _⟩)), z2l, ← hp]
             simp only [z3o, z2m]
             rw [z2t (by omega), show p.length + j - p.length = j by omega]
             exact zan hv
           · exact hs2.elim
         · exact hs2.elim
   · exact hs.elim
 | q c o =>
   simp only [zmo] at hs
   obtain ⟨us, hu1, hu2, hK⟩ := zf2 hs
   cases ha with
   | q hr ho =>
     rename_i p o1 o2
     subst ho
     obtain ⟨arr, S', f, v, g1, g2, g3⟩ := hr.pp_iff
     obtain ⟨v', x, a1, a2, a3⟩ := fin (bb := p) (oo := o2 + o) (fun j => v (o + j)) hu1 (fun j u hj => g3 _ _ (hu2 j u hj)) (fun j u hj w hw => by
      rw [zcx (hw _ _ (.inl g1)), z30]
      exact g2 _ _ (hu2 j u hj)) hK
     exact ⟨_, _, v', x, rfl, a1, a2, a3⟩
 | u x =>
   cases x with
   | p p =>
     simp only [zmo] at hs
     obtain ⟨c, rfl, hs2⟩ := zos hs
     obtain ⟨us, hu1, hu2, hK⟩ := zf2 hs2
     cases ha with
     | u hr =>
       cases hr with
       | pp b o arr S' f us' v g1 g2 g3 =>
         obtain ⟨v', x, a1, a2, a3⟩ := fin (bb := b) (oo := o) (fun j => v (0 + j)) hu1 (fun j u hj => g3 _ _ (hu2 j u hj)) (fun j u hj w hw => by
          rw [zcx (hw _ _ (.inl g1))]
          have := g2 _ _ (hu2 j u hj); rw [z2l] at this ⊢; exact this) hK
         exact ⟨_, _, v', x, rfl, a1, a2, a3⟩
   | _ => simp only [zmo] at hs
 | _ => simp only [zmo] at hs
theorem zzc {S : TypeId} {a : V} {va : Value} {KS : V → Prop} (hs : zwz P S a m KS) (M : SAt D ρ m chs C h) (ha : Rp D ρ va a) {bs : List Nat} (hbs : ∀ b, b ∈ zae a → inL bs b = true) :
 ∃ bb oo v x, va = .pointer (some ⟨bb, oo, none⟩) ∧ KS x ∧ Rp D ρ v x ∧ ∀ w, Hs D chs bs w → (loadVar S ⟨bb, oo, none⟩).run P w = .ok v w := by
 unfold zwz at hs
 split at hs
 · rename_i z hl; exact load1_S hl hs M ha hbs
 · rename_i zs hl; exact loadN_S hl hs M ha hbs
 · exact hs.elim
end
end Go.Proofs.YtalglagdgabafaaGreat
