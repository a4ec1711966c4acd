/- The symbolic engine, part b: what abstract values stand for; calls; code. -/
import Derived.WalkKit
import Derived.Orders
import Derived.KernelRfl
import Derived.ChangeKeysEq
import Derived.MapKept
import Derived.ProofKit
import Derived.Deep.Slices
import Derived.ChangeMaps4
import Derived.RangeFuncIn
import Derived.RangeFuncLeaves
import Derived.RangeFuncRecord
import Derived.OrdersIn
import Derived.TacticsIn
/- The engine, part a: heap-only predicates for the model's operations and for calls (sound over any program). -/
namespace Go.Proofs.YtalglagdgabafaaGreat
open Go
abbrev Heap := Array Obj
def hcell (h : Heap) (a : Addr) : Option Value :=
  match h[a.block]? with
  | some (.cells c _ _) => if a.spot.isSome then none else c[a.off]?
  | _ => none
def hshape (h : Heap) (r : Nat) : Option (TypeId × Nat) :=
  match h[r]? with
  | some (.cells c elem _) => some (elem, c.size)
  | _ => none
def hfroz (h : Heap) (a : Addr) : Bool :=
  match h[a.block]? with
  | some (.cells _ _ (lo, hi)) => lo ≤ a.off && a.off < hi
  | _ => false
def hset (h : Heap) (a : Addr) (v : Value) : Heap :=
  h.modify a.block fun
    | .cells c elem frozen => .cells (if a.spot.isSome then c else c.setIfInBounds a.off v) elem frozen
    | o => o
def isCells : Obj → Bool
  | .cells .. => true
  | _ => false
def single : Value → Bool
  | .agg _ | .tuple _ => false
  | _ => true
structure Same (w w' : World) : Prop where
  tape : w'.tape = w.tape
  os : w'.os = w.os
  output : w'.output = w.output
  drawn : w.drawn ≤ w'.drawn
theorem Same.refl (w : World) : Same w w := ⟨rfl, rfl, rfl, Nat.le_refl _⟩
theorem Same.trans {a b c : World} (h : Same a b) (k : Same b c) : Same a c :=
  ⟨k.tape.trans h.tape, k.os.trans h.os, k.output.trans h.output, Nat.le_trans h.drawn k.drawn⟩
def SWp {α : Type} (P : Program) : Sem α → Heap → (α → Heap → Prop) → Prop
  | .pure a, h, K => K a h
  | .load _ a k, h, K => ∃ v, hcell h a = some v ∧ SWp P (k v) h K
  | .store _ a v k, h, K => single v = true ∧ (∃ u, hcell h a = some u) ∧ hfroz h a = false ∧ SWp P k (hset h a v) K
  | .new o k, h, K => SWp P (k h.size) (h.push o) K
  | .shape r k, h, K => SWp P (k (hshape h r)) h K
  | .freeze .., _, _ => False
  | .frozen a k, h, K => SWp P (k (hfroz h a)) h K
  | .getObj r k, h, K => ∃ o, h[r]? = some o ∧ isCells o = false ∧ SWp P (k o) h K
  | .setObj r o k, h, K => (∃ u, h[r]? = some u ∧ isCells u = false) ∧ SWp P k (h.setIfInBounds r o) K
  | .choose q k, h, K => (q.forced = true → SWp P (k 0) h K) ∧ (q.forced = false → ∀ t, SWp P (k (q.cut t)) h K)
  | .sys .., _, _ => False
  | .program k, h, K => SWp P (k P) h K
  | .mark _ k, h, K => SWp P k h K
  | .halt _, _, _ => False
theorem SWp.sound {α : Type} {P : Program} {s : Sem α} : ∀ {h : Heap} {K : α → Heap → Prop}, SWp P s h K → ∀ w : World, w.heap = h →
    ∃ a w', s.run P w = .ok a w' ∧ K a w'.heap ∧ Same w w' := by
  induction s with
  | pure a => intro h K hs w hw; exact ⟨a, w, rfl, hw ▸ hs, .refl w⟩
  | load m a k ih =>
    intro h K hs w hw
    obtain ⟨v, hv, hk⟩ := hs
    subst hw
    have hv' : w.cell? a = some v := hv
    simp only [Sem.run, hv']
    exact ih v hk w rfl
  | store m a v k ih =>
    intro h K hs w hw
    obtain ⟨h1, ⟨u, hu⟩, hf, hk⟩ := hs
    subst hw
    have hu' : w.cell? a = some u := hu
    have hf' : w.frozen? a = false := hf
    obtain ⟨x, w', hr, hK, hS⟩ := ih hk (w.setCell a v) rfl
    refine ⟨x, w', ?_, hK, ⟨hS.tape, hS.os, hS.output, hS.drawn⟩⟩
    rw [← hr]
    cases v <;> simp [single] at h1 <;> simp [Sem.run, hu', hf']
  | new o k ih =>
    intro h K hs w hw
    subst hw
    obtain ⟨x, w', hr, hK, hS⟩ := ih w.heap.size hs { w with heap := w.heap.push o } rfl
    exact ⟨x, w', hr, hK, ⟨hS.tape, hS.os, hS.output, hS.drawn⟩⟩
  | shape r k ih =>
    intro h K hs w hw
    subst hw
    exact ih (w.shape? r) hs w rfl
  | freeze a n k ih => intro h K hs; exact hs.elim
  | frozen a k ih =>
    intro h K hs w hw
    subst hw
    exact ih (w.frozen? a) hs w rfl
  | getObj r k ih =>
    intro h K hs w hw
    subst hw
    obtain ⟨o, ho, hc, hk⟩ := hs
    obtain ⟨x, w', hr, hK, hS⟩ := ih o hk w rfl
    refine ⟨x, w', ?_, hK, hS⟩
    rw [← hr]
    cases o <;> simp [isCells] at hc <;> simp [Sem.run, ho]
  | setObj r o k ih =>
    intro h K hs w hw
    subst hw
    obtain ⟨⟨u, hu, hc⟩, hk⟩ := hs
    obtain ⟨x, w', hr, hK, hS⟩ := ih hk { w with heap := w.heap.setIfInBounds r o } rfl
    refine ⟨x, w', ?_, hK, ⟨hS.tape, hS.os, hS.output, hS.drawn⟩⟩
    rw [← hr]
    cases u <;> simp [isCells] at hc <;> simp [Sem.run, hu]
  | choose q k ih =>
    intro h K hs w hw
    subst hw
    by_cases hq : q.forced = true
    · obtain ⟨x, w', hr, hK, hS⟩ := ih 0 (hs.1 hq) w rfl
      exact ⟨x, w', by simp only [Sem.run, hq, if_true]; exact hr, hK, hS⟩
    · have hq' : q.forced = false := by simpa using hq
      obtain ⟨x, w', hr, hK, hS⟩ := ih (q.cut (w.tape w.drawn q)) (hs.2 hq' _) { w with drawn := w.drawn + 1 } rfl
      exact ⟨x, w', by simp only [Sem.run, hq', Bool.false_eq_true, if_false]; exact hr, hK, ⟨hS.tape, hS.os, hS.output, Nat.le_trans (Nat.le_succ _) hS.drawn⟩⟩
  | sys c k ih => intro h K hs; exact hs.elim
  | program k ih => intro h K hs w hw; exact ih P hs w hw
  | mark m k ih => intro h K hs w hw; exact ih hs w hw
  | halt x => intro h K hs; exact hs.elim
theorem SWp.mono {α : Type} {P : Program} {s : Sem α} : ∀ {h : Heap} {K K' : α → Heap → Prop}, (∀ a h', K a h' → K' a h') → SWp P s h K → SWp P s h K' := by
  induction s with
  | pure a => intro h K K' hk hs; exact hk _ _ hs
  | load m a k ih => intro h K K' hk hs; obtain ⟨v, hv, h2⟩ := hs; exact ⟨v, hv, ih v hk h2⟩
  | store m a v k ih => intro h K K' hk hs; exact ⟨hs.1, hs.2.1, hs.2.2.1, ih hk hs.2.2.2⟩
  | new o k ih => intro h K K' hk hs; exact ih _ hk hs
  | shape r k ih => intro h K K' hk hs; exact ih _ hk hs
  | freeze a n k ih => intro h K K' hk hs; exact hs
  | frozen a k ih => intro h K K' hk hs; exact ih _ hk hs
  | getObj r k ih => intro h K K' hk hs; obtain ⟨o, ho, hc, h2⟩ := hs; exact ⟨o, ho, hc, ih o hk h2⟩
  | setObj r o k ih => intro h K K' hk hs; exact ⟨hs.1, ih hk hs.2⟩
  | choose q k ih => intro h K K' hk hs; exact ⟨fun hq => ih 0 hk (hs.1 hq), fun hq t => ih _ hk (hs.2 hq t)⟩
  | sys c k ih => intro h K K' hk hs; exact hs
  | program k ih => intro h K K' hk hs; exact ih P hk hs
  | mark m k ih => intro h K K' hk hs; exact ih hk hs
  | halt x => intro h K K' hk hs; exact hs
theorem SWp.bind {α β : Type} {P : Program} {s : Sem α} {f : α → Sem β} : ∀ {h : Heap} {K : β → Heap → Prop},
    SWp P s h (fun a h' => SWp P (f a) h' K) → SWp P (s >>= f) h K := by
  show ∀ {h : Heap} {K : β → Heap → Prop}, SWp P s h (fun a h' => SWp P (f a) h' K) → SWp P (s.bind f) h K
  induction s with
  | pure a => intro h K hs; exact hs
  | load m a k ih => intro h K hs; obtain ⟨v, hv, h2⟩ := hs; exact ⟨v, hv, ih v h2⟩
  | store m a v k ih => intro h K hs; exact ⟨hs.1, hs.2.1, hs.2.2.1, ih hs.2.2.2⟩
  | new o k ih => intro h K hs; exact ih _ hs
  | shape r k ih => intro h K hs; exact ih _ hs
  | freeze a n k ih => intro h K hs; exact hs
  | frozen a k ih => intro h K hs; exact ih _ hs
  | getObj r k ih => intro h K hs; obtain ⟨o, ho, hc, h2⟩ := hs; exact ⟨o, ho, hc, ih o h2⟩
  | setObj r o k ih => intro h K hs; exact ⟨hs.1, ih hs.2⟩
  | choose q k ih => intro h K hs; exact ⟨fun hq => ih 0 (hs.1 hq), fun hq t => ih _ (hs.2 hq t)⟩
  | sys c k ih => intro h K hs; exact hs
  | program k ih => intro h K hs; exact ih P hs
  | mark m k ih => intro h K hs; exact ih hs
  | halt x => intro h K hs; exact hs
theorem SWp.pure_iff {α : Type} {P : Program} {a : α} {h : Heap} {K : α → Heap → Prop} : SWp P (pure a) h K ↔ K a h := Iff.rfl
def Callable (P : Program) (f : FuncId) : Prop := ∃ fn, P.funcs[f]? = some fn ∧ (fn.name == "runtime.NumGoroutine") = false ∧ fn.body.isNone = false
def Run (P : Program) (f : FuncId) (args : List Value) (h : Heap) (R : Value → Heap → Prop) : Prop :=
  Callable P f ∧ ∀ w : World, w.heap = h → Calls P f args.toArray w fun e w' => ∃ v, e = .returned v ∧ R v w'.heap ∧ Same w w'
theorem Run.mono {P : Program} {f : FuncId} {args : List Value} {h : Heap} {R R' : Value → Heap → Prop} (hr : Run P f args h R)
    (hi : ∀ v h', R v h' → R' v h') : Run P f args h R' :=
  ⟨hr.1, fun w hw => (hr.2 w hw).mono fun _ _ ⟨v, he, hR, hS⟩ => ⟨v, he, hi _ _ hR, hS⟩⟩
theorem run_callFunc {P : Program} {f : FuncId} (hc : Callable P f) (args : Array Value) (w : World) :
    (callFunc f args).run P w = .ok (.enter f args) w := by
  obtain ⟨fn, hf, hn, hb⟩ := hc
  unfold callFunc
  show Sem.run P (Sem.bind program _) w = _
  simp only [program, Sem.bind, Sem.run, hf]
  rw [if_neg (by rw [hn]; simp), if_neg (by rw [hb]; simp)]
  rfl
end Go.Proofs.YtalglagdgabafaaGreat

/- The engine, part b: the verification condition of a function's code, by recursion on the code (definitions alone). -/
namespace Go.Proofs.YtalglagdgabafaaGreat
open Go
def lget : List Value → Nat → Value
  | [], _ => undef
  | v :: _, 0 => v
  | _ :: l, n + 1 => lget l n
def lset : List Value → Nat → Value → List Value
  | [], _, _ => []
  | _ :: l, 0, v => v :: l
  | x :: l, n + 1, v => x :: lset l n v
def lput (t : List Value) (d : Option Tmp) (v : Value) : List Value :=
  match d with
  | some i => lset t i v
  | none => t
def ev (t : List Value) : Operand → Value
  | .tmp i => lget t i
  | .const v => v
  | .global g => .pointer (some ⟨g, 0, none⟩)
  | .func f => .func (.func f) #[] #[]
inductive Sh where
  | i (k : IntKind) | b | s | p | sl | m | v
def shOf : Value → Sh
  | .int k _ => .i k
  | .bool _ => .b
  | .string _ => .s
  | .pointer _ => .p
  | .slice .. => .sl
  | .map _ => .m
  | _ => .v
def Sh.Ex (x : Sh) (f : Value → Prop) : Prop :=
  match x with
  | .i k => ∃ n : Int, f (.int k n)
  | .b => ∃ c : Bool, f (.bool c)
  | .s => ∃ s : ByteArray, f (.string s)
  | .p => ∃ a : Option Addr, f (.pointer a)
  | .sl => ∃ (a : Option Addr) (n c : Nat), f (.slice a n c)
  | .m => ∃ r : Option Nat, f (.map r)
  | .v => ∃ v : Value, f v
def exL : List Value → (List Value → Prop) → Prop
  | [], f => f []
  | z :: l, f => (shOf z).Ex fun v => exL l fun vs => f (v :: vs)
def exE (z : Value) (f : Value → Prop) : Prop :=
  match z with
  | .agg cs => exL cs.toList fun vs => f (.agg vs.toArray)
  | z => (shOf z).Ex f
def exT : List Value → (List Value → Prop) → Prop
  | [], f => f []
  | z :: l, f => exE z fun v => exT l fun vs => f (v :: vs)
def exZ (z : Value) (f : Value → Prop) : Prop :=
  match z with
  | .tuple cs => exT cs.toList fun vs => f (.tuple vs.toArray)
  | z => exE z f
def onPtr (a : Option Addr) (K : Nat → Nat → Prop) : Prop :=
  match a with
  | some ⟨b, o, none⟩ => K b o
  | _ => False
def addO (o n : Nat) : Nat := cond (Nat.beq n 0) o (o + n)
def bcase (v : Value) (A B : Prop) : Prop :=
  match v with
  | .bool c => cond c A B
  | _ => False
inductive Lay where
  | one (z : Value)
  | many (cs : List Value)
def layOf (P : Program) (t : TypeId) : Option Lay :=
  match P.underlying t, P.info? t with
  | some (.struct _), some i | some (.array ..), some i =>
    match i.zero with
    | some (.agg cs) => if cs.size = i.size then some (.many cs.toList) else none
    | _ => none
  | some _, some i =>
    match i.zero with
    | some z => if single z = true ∧ i.size = 1 then some (.one z) else none
    | none => none
  | _, _ => none
def loadS (h : Heap) (b o : Nat) : List Value → Nat → (List Value → Prop) → Prop
  | [], _, K => K []
  | z :: l, i, K => (shOf z).Ex fun v => hcell h ⟨b, addO o i, none⟩ = some v ∧ loadS h b o l (i + 1) fun vs => K (v :: vs)
def loadK (P : Program) (t : TypeId) (a : Option Addr) (h : Heap) (K : Value → Prop) : Prop :=
  match layOf P t with
  | some (.one z) => onPtr a fun b o => (shOf z).Ex fun v => hcell h ⟨b, o, none⟩ = some v ∧ K v
  | some (.many cs) => onPtr a fun b o => loadS h b o cs 0 fun vs => K (.agg vs.toArray)
  | none => False
def stK (h : Heap) (a : Addr) (v : Value) (K : Heap → Prop) : Prop :=
  single v = true ∧ (∃ u, hcell h a = some u) ∧ hfroz h a = false ∧ K (hset h a v)
def newB (h : Heap) (o : Obj) (K : Nat → Heap → Prop) : Prop := K h.size (h.push o)
def storeS (b o : Nat) : List Value → Nat → Heap → (Heap → Prop) → Prop
  | [], _, h, K => K h
  | v :: l, i, h, K => stK h ⟨b, addO o i, none⟩ v fun h' => storeS b o l (i + 1) h' K
def storeK (P : Program) (t : TypeId) (a : Option Addr) (x : Value) (h : Heap) (K : Heap → Prop) : Prop :=
  match layOf P t, x with
  | some (.one _), x => onPtr a fun b o => stK h ⟨b, o, none⟩ x K
  | some (.many cs), .agg vs => onPtr a fun b o => cond (Nat.beq cs.length vs.toList.length) (storeS b o vs.toList 0 h K) False
  | _, _ => False
def XWp {α : Type} (P : Program) : Sem α → (α → Prop) → Prop
  | .pure a, K => K a
  | .program k, K => XWp P (k P) K
  | .mark _ k, K => XWp P k K
  | _, _ => False
def PWp {α : Type} (P : Program) : Sem α → Heap → (α → Prop) → Prop
  | .pure a, _, K => K a
  | .load _ a k, h, K => ∃ v, hcell h a = some v ∧ PWp P (k v) h K
  | .shape r k, h, K => PWp P (k (hshape h r)) h K
  | .frozen a k, h, K => PWp P (k (hfroz h a)) h K
  | .getObj r k, h, K => ∃ o, h[r]? = some o ∧ isCells o = false ∧ PWp P (k o) h K
  | .program k, h, K => PWp P (k P) h K
  | .mark _ k, h, K => PWp P k h K
  | _, _, _ => False
def kindNo : IntKind → Nat
  | .i8 => 0 | .i16 => 1 | .i32 => 2 | .i64 => 3 | .u8 => 4 | .u16 => 5 | .u32 => 6 | .u64 => 7
def eqV : Value → Value → Option Bool
  | .int k a, .int k' b => cond (Nat.beq (kindNo k) (kindNo k')) (some (a == b)) none
  | .bool a, .bool b => some (a == b)
  | .string a, .string b => some (a.toList == b.toList)
  | _, _ => none
def eqL : List Value → List Value → Option Bool
  | [], [] => some true
  | x :: xs, y :: ys =>
    match eqV x y, eqL xs ys with
    | some a, some b => some (a && b)
    | _, _ => none
  | _, _ => none
def flat (P : Program) : List Field → Nat → Bool
  | [], _ => true
  | f :: l, i => (f.offset == i) && (f.name != "_") && (match P.underlying f.type with | some .bool | some (.int _) | some .string => true | _ => false) && flat P l (i + 1)
def fits (P : Program) : List Field → List Value → Bool
  | [], [] => true
  | f :: fs, v :: vs => (match P.underlying f.type, v with | some .bool, .bool _ => true | some (.int _), .int _ _ => true | some .string, .string _ => true | _, _ => false) && fits P fs vs
  | _, _ => false
def intK (op : BinOp) (k : IntKind) (x y : Int) (K : Value → Prop) : Prop :=
  match op with
  | .add => K (.int k (k.wrap (x + y)))
  | .sub => K (.int k (k.wrap (x - y)))
  | .mul => K (.int k (k.wrap (x * y)))
  | .quo => y ≠ 0 ∧ K (.int k (k.wrap (x.tdiv y)))
  | .rem => y ≠ 0 ∧ K (.int k (x.tmod y))
  | .eql => K (.bool (x == y))
  | .neq => K (.bool (x != y))
  | .lss => K (.bool (x < y))
  | .leq => K (.bool (x ≤ y))
  | .gtr => K (.bool (x > y))
  | .geq => K (.bool (x ≥ y))
  | .and => K (.int k (k.wrap (BitVec.ofInt k.bits x &&& BitVec.ofInt k.bits y).toNat))
  | .or => K (.int k (k.wrap (BitVec.ofInt k.bits x ||| BitVec.ofInt k.bits y).toNat))
  | .xor => K (.int k (k.wrap (BitVec.ofInt k.bits x ^^^ BitVec.ofInt k.bits y).toNat))
  | .andNot => K (.int k (k.wrap (BitVec.ofInt k.bits x &&& ~~~BitVec.ofInt k.bits y).toNat))
  | .shl => 0 ≤ y ∧ K (.int k (k.wrap (x * 2 ^ (min y.toNat k.bits))))
  | .shr => 0 ≤ y ∧ K (.int k (x.fdiv (2 ^ (min y.toNat k.bits))))
def nilEq (op : BinOp) (z : Bool) (K : Value → Prop) : Prop :=
  match op with
  | .eql => K (.bool z)
  | .neq => K (.bool !z)
  | _ => False
def strK (op : BinOp) (x y : ByteArray) (K : Value → Prop) : Prop :=
  match op with
  | .add => x.size + y.size < 9223372036854775808 ∧ K (.string (x ++ y))
  | .eql => K (.bool (x.toList == y.toList))
  | .neq => K (.bool !(x.toList == y.toList))
  | .lss => K (.bool (Op.bytesLess x.toList y.toList))
  | .leq => K (.bool (Op.bytesLess x.toList y.toList || x.toList == y.toList))
  | .gtr => K (.bool !(Op.bytesLess x.toList y.toList || x.toList == y.toList))
  | .geq => K (.bool !(Op.bytesLess x.toList y.toList))
  | _ => False
def kindEq (k k' : IntKind) (A : Prop) : Prop := cond (Nat.beq (kindNo k) (kindNo k')) A False
def binK (P : Program) (op : BinOp) (T : TypeId) (x y : Value) (K : Value → Prop) : Prop :=
  match x, y with
  | .int k a, .int k' b =>
    match op with
    | .shl => 0 ≤ b ∧ K (.int k (k.wrap (a * 2 ^ (min b.toNat k.bits))))
    | .shr => 0 ≤ b ∧ K (.int k (a.fdiv (2 ^ (min b.toNat k.bits))))
    | op => kindEq k k' (intK op k a b K)
  | .string a, .string b => strK op a b K
  | .bool a, .bool b => match P.underlying T with | some .bool => nilEq op (a == b) K | _ => False
  | .pointer a, .pointer none => match P.underlying T with | some (.pointer _) => nilEq op a.isNone K | _ => False
  | .slice a _ _, .slice none _ _ => match P.underlying T with | some (.slice _) => nilEq op a.isNone K | _ => False
  | .map a, .map none => match P.underlying T with | some (.map ..) => nilEq op a.isNone K | _ => False
  | .agg xs, .agg ys =>
    match P.underlying T with
    | some (.struct fs) => cond (flat P fs.toList 0 && !P.stoodInHeld T && !P.eqGuardType P.depth T)
        (cond (fits P fs.toList xs.toList && Nat.beq xs.toList.length fs.toList.length && Nat.beq ys.toList.length fs.toList.length)
          (match eqL xs.toList ys.toList with | some c => nilEq op c K | none => False) False) False
    | _ => False
  | _, _ => False
def pickK (c a b : Value) (K : Value → Prop) : Prop :=
  match c, a, b with
  | .bool c, .bool x, .bool y => K (.bool (cond c x y))
  | .bool c, a, b => cond c (K a) (K b)
  | _, _, _ => False
def lay1 (P : Program) (t : TypeId) : Nat := ((P.info? t).map (·.size)).getD 0
def subN (a b : Nat) : Nat := cond (Nat.beq b 0) a (a - b)
def slA (a : Option Addr) (c l s : Nat) : Option Addr := cond (Nat.beq l 0) a (if c = l then a else a.map fun x => ⟨x.block, x.off + l * s, none⟩)
def leK (c : Bool) (l r : Int) (K : Prop) : Prop := cond c K (l ≤ r ∧ K)
def nz (n : Nat) (A : Prop) : Prop := cond (Nat.beq n 0) False A
def splice : List Value → Nat → List Value → List Value
  | l, _, [] => l
  | [], _, _ => []
  | _ :: l, 0, v :: vs => v :: splice l 0 vs
  | x :: l, n + 1, v :: vs => x :: splice l n (v :: vs)
def fillL (place : Nat → Option (Nat × Nat)) : List Value → List (Nat × Value) → Option (List Value)
  | l, [] => some l
  | l, (i, v) :: rest =>
    match place i with
    | none => none
    | some (o, s) => cond (Nat.beq v.cells.toList.length s && Nat.ble (o + v.cells.toList.length) l.length) (fillL place (splice l o v.cells.toList) rest) none
def placeOf (P : Program) (fs : List Field) (i : Nat) : Option (Nat × Nat) :=
  match fs[i]? with
  | some f => some (f.offset, lay1 P f.type)
  | none => none
def allLaid (P : Program) : List Field → Bool
  | [] => true
  | f :: fs => !Nat.beq (lay1 P f.type) 0 && allLaid P fs
def pureOp (o : Oper) : Bool :=
  match o.op with
  | .move _ | .assign _ | .pick .. | .nilCheck _ | .binOp .. | .unOp .. | .convert .. | .makeFunc .. | .fieldAddr .. | .field .. | .indexAddr .. | .index .. | .extract .. | .slice .. | .build .. => true
  | .call { callee := .builtin .len, argTypes := _, args := _ } => false
  | .call { callee := .builtin .min, .. } | .call { callee := .builtin .max, .. } => true
  | _ => false
def readOp (o : Oper) : Bool :=
  match o.op with
  | .load .. | .lookup .. => true
  | .call { callee := .builtin .len, .. } => true
  | _ => false
def nextV (K : Value → Prop) : Next → Prop
  | .value v => K v
  | _ => False
def bnd (t : List Value) (x : Option Operand) (d : Int) : Option Int :=
  match x with
  | none => some d
  | some x => match ev t x with | .int _ i => some i | _ => none
def pureK (P : Program) (t : List Value) (o : Oper) (K : Value → Prop) : Prop :=
  match o.op with
  | .move x | .assign x => K (ev t x)
  | .pick c a b => pickK (ev t c) (ev t a) (ev t b) K
  | .nilCheck x =>
    match ev t x with
    | .pointer a => onPtr a fun b o => K (.pointer (some ⟨b, o, none⟩))
    | .func (.func f) a b => K (.func (.func f) a b)
    | _ => False
  | .binOp op T x y _ => binK P op T (ev t x) (ev t y) K
  | .fieldAddr s x f =>
    match P.underlying s, ev t x with
    | some (.struct fs), .pointer a =>
      match fs[f]? with
      | some fd => nz (lay1 P fd.type) (onPtr a fun b o => K (.pointer (some ⟨b, addO o fd.offset, none⟩)))
      | none => False
    | _, _ => False
  | .indexAddr T x i =>
    match P.underlying T, ev t x, ev t i with
    | some (.slice e), .slice a n _, .int _ i => onPtr a fun b o => 0 ≤ i ∧ i < n ∧ nz (lay1 P e) (K (.pointer (some ⟨b, o + i.toNat * lay1 P e, none⟩)))
    | some (.array n e), .pointer a, .int _ i => onPtr a fun b o => 0 ≤ i ∧ i < n ∧ nz (lay1 P e) (K (.pointer (some ⟨b, o + i.toNat * lay1 P e, none⟩)))
    | _, _, _ => False
  | .index T x i =>
    match P.underlying T, ev t x, ev t i with
    | some .string, .string s, .int _ i => 0 ≤ i ∧ i < s.size ∧ K (.int .u8 (s.data.getD i.toNat 0).toNat)
    | _, _, _ => XWp P (execOp (ev t) o) (nextV K)
  | .build T ps =>
    match P.underlying T, P.info? T with
    | some (.struct fs), some i =>
      match i.zero with
      | some (.agg cs) => cond (allLaid P fs.toList)
        (match fillL (placeOf P fs.toList) cs.toList (ps.toList.map fun p => (p.1, ev t p.2)) with
          | some l => K (.agg l.toArray)
          | none => False) False
      | _ => False
    | _, _ => XWp P (execOp (ev t) o) (nextV K)
  | .slice T x lo hi mx =>
    match P.underlying T, ev t x, mx with
    | some (.slice e), .slice a n c, none =>
      match bnd t lo 0, bnd t hi n with
      | some l, some r => leK lo.isNone 0 l (l ≤ r ∧ r ≤ c ∧ nz (lay1 P e) (K (.slice (slA a c l.toNat (lay1 P e)) (subN r.toNat l.toNat) (subN c l.toNat))))
      | _, _ => False
    | some .string, .string s, none =>
      match bnd t lo 0, bnd t hi s.size with
      | some l, some r => leK lo.isNone 0 l (l ≤ r ∧ r ≤ s.size ∧ K (.string (s.extract l.toNat r.toNat)))
      | _, _ => False
    | some (.slice e), .slice a n c, some mx =>
      match bnd t lo 0, bnd t hi n, bnd t (some mx) 0 with
      | some l, some r, some m => cond hi.isSome (leK lo.isNone 0 l (l ≤ r ∧ r ≤ m ∧ m ≤ c ∧ nz (lay1 P e) (K (.slice (slA a m.toNat l.toNat (lay1 P e)) (subN r.toNat l.toNat) (subN m.toNat l.toNat))))) False
      | _, _, _ => False
    | some (.pointer A), .pointer a, none =>
      match P.underlying A with
      | some (.array n e) =>
        match bnd t lo 0, bnd t hi n with
        | some l, some r => onPtr a fun b o => leK lo.isNone 0 l (l ≤ r ∧ r ≤ n ∧ nz (lay1 P e) (K (.slice (slA (some ⟨b, o, none⟩) n l.toNat (lay1 P e)) (subN r.toNat l.toNat) (subN n l.toNat))))
        | _, _ => False
      | _ => False
    | some (.array n e), .pointer a, none =>
      match bnd t lo 0, bnd t hi n with
      | some l, some r => onPtr a fun b o => leK lo.isNone 0 l (l ≤ r ∧ r ≤ n ∧ nz (lay1 P e) (K (.slice (slA (some ⟨b, o, none⟩) n l.toNat (lay1 P e)) (subN r.toNat l.toNat) (subN n l.toNat))))
      | _, _ => False
    | _, _, _ => False
  | _ => XWp P (execOp (ev t) o) (nextV K)
def zeroOf (P : Program) (t : TypeId) : Value := (((P.info? t).bind (·.zero))).getD undef
def lookK (P : Program) (T : TypeId) (m k : Value) (ok : Bool) (h : Heap) (K : Value → Prop) : Prop := PWp P (Instr.lookup T m k ok) h K
def lenMapK (h : Heap) (r : Option Nat) (K : Int → Prop) : Prop :=
  match r with
  | none => K 0
  | some b => ∃ es c, h[b]? = some (.map es c) ∧ K es.size
def readK (P : Program) (t : List Value) (o : Oper) (h : Heap) (K : Value → Prop) : Prop :=
  match o.op with
  | .load T a =>
    match ev t a with
    | .pointer a => loadK P T a h K
    | _ => False
  | .lookup T m k ok => lookK P T (ev t m) (ev t k) ok h fun v => exZ (zeroOf P o.type) fun v' => v = v' ∧ K v'
  | .call c =>
    match c.callee with
    | .builtin .len =>
      match c.args[0]?, c.argTypes[0]? with
      | some x, some T =>
        match P.underlying T, ev t x with
        | some .string, .string s => K (.int .i64 s.size)
        | some (.slice _), .slice _ n _ => K (.int .i64 n)
        | some (.map ..), .map r => lenMapK h r fun n => K (.int .i64 n)
        | _, _ => False
      | _, _ => False
    | _ => False
  | _ => False
abbrev Hints := List (Nat × List (Nat × Sh))
structure Hn where
  hs : Hints
  js : Hints
  rs : List (Nat × TypeId)
def rsOf : List (Nat × TypeId) → Operand → TypeId
  | (s, T) :: l, .tmp n => cond (Nat.beq s n) T (rsOf l (.tmp n))
  | _, _ => 0
def CallV (P : Program) (f : Value) (args : List Value) (h : Heap) (R : Value → Heap → Prop) : Prop :=
  match f with
  | .func (.func g) first captured => Run P g (first.toList ++ args ++ captured.toList) h R
  | _ => False
def nextK (P : Program) (K : Value → Heap → Prop) : Next → Heap → Prop
  | .value v, h => K v h
  | .skip, h => K undef h
  | .enter f args, h => Run P f args.toList h K
  | _, _ => False
def appK (P : Program) (ts : Array TypeId) (T : TypeId) (s x : Value) (h : Heap) (K : Value → Heap → Prop) : Prop := SWp P (Builtin.append_ ts T #[s, x]) h K
def copyK (P : Program) (ts : Array TypeId) (T : TypeId) (s x : Value) (h : Heap) (K : Value → Heap → Prop) : Prop := SWp P (Builtin.copy_ ts T #[s, x]) h K
def delK (P : Program) (ts : Array TypeId) (T : TypeId) (s x : Value) (h : Heap) (K : Value → Heap → Prop) : Prop := SWp P (Builtin.delete_ ts T #[s, x]) h K
def clearK (P : Program) (ts : Array TypeId) (T : TypeId) (x : Value) (h : Heap) (K : Value → Heap → Prop) : Prop := SWp P (Builtin.clear_ ts T #[x]) h K
def updK (P : Program) (T : TypeId) (m k v : Value) (h : Heap) (K : Heap → Prop) : Prop := SWp P (Instr.mapUpdate T m k v) h fun _ h' => K h'
def makeK (P : Program) (T : TypeId) (l c : Value) (h : Heap) (K : Value → Heap → Prop) : Prop := SWp P (Instr.makeSlice T l c) h K
def rangeK (P : Program) (T : TypeId) (x : Value) (h : Heap) (K : Value → Heap → Prop) : Prop := SWp P (Instr.range T x) h K
def nextM (P : Program) (it : Value) (h : Heap) (E : Heap → Prop) (K : Value → Value → Heap → Prop) : Prop :=
  SWp P (Instr.next it false 0) h fun v h' => (v = .tuple #[.bool false] ∧ E h') ∨ ∃ k x : Value, v = .tuple #[.bool true, k, x] ∧ K k x h'
def nextS (P : Program) (it : Value) (h : Heap) (E : Heap → Prop) (K : Int → Int → Heap → Prop) : Prop :=
  SWp P (Instr.next it true 0) h fun v h' => (v = .tuple #[.bool false] ∧ E h') ∨ ∃ i c : Int, v = .tuple #[.bool true, .int .i64 i, .int .i32 c] ∧ K i c h'
def entryM (P : Program) (it : Value) (h : Heap) (K : Value → Heap → Prop) : Prop := SWp P (Instr.entry it) h K
def entryK (P : Program) (T : TypeId) (it : Value) (h : Heap) (K : Value → Heap → Prop) : Prop :=
  match P.underlying T with
  | some (.map k e) => entryM P it h fun v h' => exE (zeroOf P k) fun a => exE (zeroOf P e) fun b => v = .tuple #[a, b] ∧ K (.tuple #[a, b]) h'
  | _ => False
def mapEntryK (P : Program) (T : TypeId) (m k : Value) (h : Heap) (K : Value → Heap → Prop) : Prop := SWp P (Instr.mapEntry T m k) h K
def entryStK (P : Program) (T : TypeId) (m s v : Value) (h : Heap) (K : Heap → Prop) : Prop := SWp P (Instr.entryStore T m s v) h fun _ h' => K h'
def typed (P : Program) (T : TypeId) (K : Value → Heap → Prop) (v : Value) (h : Heap) : Prop := exZ (zeroOf P T) fun v' => v = v' ∧ K v' h
def effK (P : Program) (H : Hn) (t : List Value) (o : Oper) (h : Heap) (K : Value → Heap → Prop) : Prop :=
  match o.op with
  | .store T a x =>
    match ev t a with
    | .pointer a => storeK P T a (ev t x) h (K undef)
    | _ => False
  | .box T x => newB h (.cells (ev t x).cells T) fun b h' => K (.pointer (some ⟨b, 0, none⟩)) h'
  | .alloc T => match (P.info? T).bind (·.zero) with
    | some z => newB h (.cells z.cells T) fun b h' => K (.pointer (some ⟨b, 0, none⟩)) h'
    | none => False
  | .buildSlice T n ps =>
    match P.underlying T with
    | some (.slice e) =>
      match P.info? e with
      | some i =>
        match i.zero with
        | some z => cond (Nat.ble (n * i.size) 16777216 && !Nat.beq (n * i.size) 0)
          (match fillL (fun j => some (j * i.size, i.size)) ((List.range (n * i.size)).map fun j => z.cells[j % z.cells.size]!) (ps.toList.map fun p => (p.1, ev t p.2)) with
          | some l => newB h (.cells l.toArray e) fun b h' => K (.slice (some ⟨b, 0, none⟩) n n) h'
          | none => False) False
        | none => False
      | none => False
    | _ => False
  | .makeMap _ none => newB h (.map #[] 0) fun b h' => K (.map (some b)) h'
  | .mapUpdate T m k v => updK P T (ev t m) (ev t k) (ev t v) h (K undef)
  | .makeSlice T l c => makeK P T (ev t l) (ev t c) h (typed P o.type K)
  | .range T x => rangeK P T (ev t x) h K
  | .mapEntry T m k => mapEntryK P T (ev t m) (ev t k) h K
  | .entryStore T m s v => entryStK P T (ev t m) (ev t s) (ev t v) h (K undef)
  | .call c =>
    match c.callee with
    | .value f => CallV P (ev t f) (c.args.toList.map (ev t)) h (typed P o.type K)
    | .builtin .append => match c.args.toList with
      | [s, x] => appK P c.argTypes o.type (ev t s) (ev t x) h (typed P o.type K)
      | _ => False
    | .builtin .copy => match c.args.toList with
      | [s, x] => copyK P c.argTypes o.type (ev t s) (ev t x) h (typed P o.type K)
      | _ => False
    | .builtin .delete => match c.args.toList with
      | [s, x] => delK P c.argTypes o.type (ev t s) (ev t x) h K
      | _ => False
    | .builtin .clear => match c.args.toList with
      | [x] => clearK P c.argTypes o.type (ev t x) h K
      | _ => False
    | _ => SWp P (execOp (ev t) o) h (nextK P K)
  | .next it false => nextM P (ev t it) h (fun h' => K (.tuple #[.bool false]) h') (fun a b h' => K (.tuple #[.bool true, a, b]) h')
  | .next it true => nextS P (ev t it) h (fun h' => K (.tuple #[.bool false]) h') (fun i c h' => K (.tuple #[.bool true, .int .i64 i, .int .i32 c]) h')
  | .entry it => entryK P (rsOf H.rs it) (ev t it) h K
  | .panic _ => False
  | .makeInterface _ _ => False
  | _ => SWp P (execOp (ev t) o) h (nextK P K)
def opK (P : Program) (H : Hn) (t : List Value) (o : Oper) (h : Heap) (K : Value → Heap → Prop) : Prop :=
  cond (pureOp o) (pureK P t o fun v => K v h) (cond (readOp o) (readK P t o h fun v => K v h) (effK P H t o h K))
def guardSlot (ops : List Oper) (o : Oper) : Option (Option Nat × Bool) :=
  match o.guard with
  | none => none
  | some (j, want) => some ((ops[j]?).bind (·.dst), want)
def guarded (ops : List Oper) (o : Oper) (t : List Value) (A B : List Value → Prop) : Prop :=
  match guardSlot ops o with
  | none => A t
  | some (none, _) => B t
  | some (some d, want) =>
    match lget t d with
    | .bool c => cond c (cond want (A (lset t d (.bool true))) (B (lset t d (.bool true)))) (cond want (B (lset t d (.bool false))) (A (lset t d (.bool false))))
    | _ => B t
def vcOps (P : Program) (H : Hn) (ops : List Oper) (K : List Value → Heap → Prop) : List Oper → List Value → Heap → Prop
  | [], t, h => K t h
  | o :: rest, t, h => guarded ops o t (fun t => opK P H t o h fun v h' => vcOps P H ops K rest (lput t o.dst v) h') (fun t => vcOps P H ops K rest (lput t o.dst undef) h)
def readyL (ops : List Oper) (done : List Nat) (i : Nat) : Bool :=
  !done.contains i && match ops[i]? with
    | some o => o.after.toList.all fun e => !Region.binds .any e || done.contains e.on
    | none => false
def nextQ (ops : List Oper) (done : List Nat) : Option Nat :=
  (List.range ops.length).find? fun i => readyL ops done i && (match ops[i]? with | some o => pureOp o || readOp o | none => false)
def readies (ops : List Oper) (done : List Nat) : List Nat := (List.range ops.length).filter (readyL ops done)
def conjL : List Nat → (Nat → Prop) → Prop
  | [], _ => False
  | [i], f => f i
  | i :: l, f => f i ∧ conjL l f
def waits (ops : List Oper) : Nat → Nat → Nat → Bool
  | 0, _, _ => false
  | n + 1, i, j =>
    match ops[j]? with
    | some o => o.after.toList.any fun e => Region.binds .any e && (e.on == i || waits ops n i e.on)
    | none => false
def again (P : Program) (ops : List Oper) (e : Nat) (h : Heap) : List (Nat × Oper × List Value × Value) → Prop → Prop
  | [], K => K
  | (i, o, t, v) :: l, K => cond (waits ops ops.length i e) (again P ops e h l K) (readK P t o h (fun v' => v' = v) ∧ again P ops e h l K)
def vcDraw (P : Program) (H : Hn) (ops : List Oper) (K : List Value → Heap → Prop) : Nat → List Nat → List (Nat × Oper × List Value × Value) → List Value → Heap → Prop
  | 0, _, _, t, h => K t h
  | n + 1, done, held, t, h =>
    match nextQ ops done with
    | some i =>
      match ops[i]? with
      | none => False
      | some o => guarded ops o t
          (fun t => cond (pureOp o) (pureK P t o fun v => vcDraw P H ops K n (i :: done) held (lput t o.dst v) h)
            (readK P t o h fun v => vcDraw P H ops K n (i :: done) ((i, o, t, v) :: held) (lput t o.dst v) h))
          (fun t => vcDraw P H ops K n (i :: done) held (lput t o.dst undef) h)
    | none => conjL (readies ops done) fun i =>
      match ops[i]? with
      | none => False
      | some o => guarded ops o t
          (fun t => effK P H t o h fun v h' => again P ops i h' held (vcDraw P H ops K n (i :: done) held (lput t o.dst v) h'))
          (fun t => vcDraw P H ops K n (i :: done) held (lput t o.dst undef) h)
def drawB (ops : List Oper) : Nat → List Nat → Bool
  | 0, done => (List.range ops.length).all fun i => done.contains i
  | n + 1, done =>
    match nextQ ops done with
    | some i =>
      match ops[i]? with
      | none => false
      | some o =>
        ((List.range ops.length).all fun j => j == i || done.contains j || match ops[j]? with
            | some oj => oj.after.toList.any (fun e => Region.binds .any e && e.on == i) || o.apart ops.toArray oj
            | none => true) && drawB ops n (i :: done)
    | none => (readies ops done).all fun i => (match ops[i]? with | some o => !(pureOp o || readOp o) | none => false) && drawB ops n (i :: done)
inductive Ex where
  | nrm
  | ext (id : Nat)
  | ret
abbrev Post := Ex → List Value → Heap → Prop
def InvT : List Sh → Type
  | [] => Heap → Prop
  | .i _ :: l => Int → InvT l
  | .b :: l => Bool → InvT l
  | .s :: l => ByteArray → InvT l
  | .p :: l => Option Addr → InvT l
  | .sl :: l => Option Addr → Nat → Nat → InvT l
  | .m :: l => Option Nat → InvT l
  | .v :: l => Value → InvT l
def MeaT : List Sh → Type
  | [] => Heap → Nat
  | .i _ :: l => Int → MeaT l
  | .b :: l => Bool → MeaT l
  | .s :: l => ByteArray → MeaT l
  | .p :: l => Option Addr → MeaT l
  | .sl :: l => Option Addr → Nat → Nat → MeaT l
  | .m :: l => Option Nat → MeaT l
  | .v :: l => Value → MeaT l
def app : (l : List Sh) → InvT l → List Value → Heap → Prop
  | [], I, [], h => I h
  | .i k :: l, I, .int k' n :: vs, h => kindEq k k' (app l (I n) vs h)
  | .b :: l, I, .bool c :: vs, h => app l (I c) vs h
  | .s :: l, I, .string s :: vs, h => app l (I s) vs h
  | .p :: l, I, .pointer a :: vs, h => app l (I a) vs h
  | .sl :: l, I, .slice a n c :: vs, h => app l (I a n c) vs h
  | .m :: l, I, .map r :: vs, h => app l (I r) vs h
  | .v :: l, I, v :: vs, h => app l (I v) vs h
  | _, _, _, _ => False
def appM : (l : List Sh) → MeaT l → List Value → Heap → Nat
  | [], m, [], h => m h
  | .i _ :: l, m, .int _ n :: vs, h => appM l (m n) vs h
  | .b :: l, m, .bool c :: vs, h => appM l (m c) vs h
  | .s :: l, m, .string s :: vs, h => appM l (m s) vs h
  | .p :: l, m, .pointer a :: vs, h => appM l (m a) vs h
  | .sl :: l, m, .slice a n c :: vs, h => appM l (m a n c) vs h
  | .m :: l, m, .map r :: vs, h => appM l (m r) vs h
  | .v :: l, m, v :: vs, h => appM l (m v) vs h
  | _, _, _, _ => 0
def allI : (l : List Sh) → InvT l → Heap → (List Value → Prop) → Prop
  | [], I, h, f => I h → f []
  | .i k :: l, I, h, f => ∀ n : Int, allI l (I n) h fun vs => f (.int k n :: vs)
  | .b :: l, I, h, f => ∀ c : Bool, allI l (I c) h fun vs => f (.bool c :: vs)
  | .s :: l, I, h, f => ∀ s : ByteArray, allI l (I s) h fun vs => f (.string s :: vs)
  | .p :: l, I, h, f => ∀ a : Option Addr, allI l (I a) h fun vs => f (.pointer a :: vs)
  | .sl :: l, I, h, f => ∀ (a : Option Addr) (n c : Nat), allI l (I a n c) h fun vs => f (.slice a n c :: vs)
  | .m :: l, I, h, f => ∀ r : Option Nat, allI l (I r) h fun vs => f (.map r :: vs)
  | .v :: l, I, h, f => ∀ v : Value, allI l (I v) h fun vs => f (v :: vs)
def mods : Code → List Nat
  | .region _ ops _ => ops.toList.filterMap (·.dst) ++ ops.toList.filterMap fun o => match o.guard with | some (j, _) => (ops.toList[j]?).bind (·.dst) | none => none
  | .seq x y => mods x ++ mods y
  | .cond _ x y => mods x ++ mods y
  | .block _ c => mods c
  | .loop c => mods c
  | .scope c => mods c
  | _ => []
def garb (md : List Nat) (g : Nat → Value) : List Value → Nat → List Value
  | [], _ => []
  | v :: l, k => cond (md.contains k) (g k) v :: garb md g l (k + 1)
def setAll : List Value → List Nat → List Value → List Value
  | t, i :: is, v :: vs => setAll (lset t i v) is vs
  | t, _, _ => t
def firstRegion : Code → Nat
  | .region id _ _ => id
  | .seq x _ => firstRegion x
  | .cond _ x _ => firstRegion x
  | .block _ c => firstRegion c
  | .loop c => firstRegion c
  | .scope c => firstRegion c
  | _ => 0
def hintOf (hs : Hints) (n : Nat) : List (Nat × Sh) :=
  match hs with
  | [] => []
  | (k, l) :: r => cond (Nat.beq k n) l (hintOf r n)
def hasHint (hs : Hints) (n : Nat) : Bool :=
  match hs with
  | [] => false
  | (k, _) :: r => cond (Nat.beq k n) true (hasHint r n)
def allTo : (l : List Sh) → InvT l → Heap → (List Value → Prop) → Prop
  | [], I, h, f => f [] → I h
  | .i k :: l, I, h, f => ∀ n : Int, allTo l (I n) h fun vs => f (.int k n :: vs)
  | .b :: l, I, h, f => ∀ c : Bool, allTo l (I c) h fun vs => f (.bool c :: vs)
  | .s :: l, I, h, f => ∀ s : ByteArray, allTo l (I s) h fun vs => f (.string s :: vs)
  | .p :: l, I, h, f => ∀ a : Option Addr, allTo l (I a) h fun vs => f (.pointer a :: vs)
  | .sl :: l, I, h, f => ∀ (a : Option Addr) (n c : Nat), allTo l (I a n c) h fun vs => f (.slice a n c :: vs)
  | .m :: l, I, h, f => ∀ r : Option Nat, allTo l (I r) h fun vs => f (.map r :: vs)
  | .v :: l, I, h, f => ∀ v : Value, allTo l (I v) h fun vs => f (v :: vs)
def slots : List (Nat × Sh) → List Nat
  | [] => []
  | p :: l => p.1 :: slots l
def shapes : List (Nat × Sh) → List Sh
  | [] => []
  | p :: l => p.2 :: shapes l
def vals (t : List Value) : List (Nat × Sh) → List Value
  | [] => []
  | p :: l => lget t p.1 :: vals t l
def frameAt (md : List Nat) (t : List Value) (l : List (Nat × Sh)) (g : Nat → Value) (vs : List Value) : List Value :=
  setAll (garb md g t 0) (slots l) vs
def thenQ (K : List Value → Heap → Prop) (Q : Post) : Post
  | .nrm, t, h => K t h
  | .ext i, t, h => Q (.ext i) t h
  | .ret, t, h => Q .ret t h
def blockQ (id : Nat) (Q : Post) : Post
  | .nrm, t, h => Q .nrm t h
  | .ext j, t, h => cond (Nat.beq j id) (Q .nrm t h) (Q (.ext j) t h)
  | .ret, t, h => Q .ret t h
def vc (P : Program) (H : Hn) : Code → Post → List Value → Heap → Prop
  | .skip, Q, t, h => Q .nrm t h
  | .region _ ops d, Q, t, h =>
    cond d (cond (drawB ops.toList ops.toList.length [] && Region.noSelect ops.toList.toArray) (vcDraw P H ops.toList (Q .nrm) ops.toList.length [] [] t h) False) (vcOps P H ops.toList (Q .nrm) ops.toList t h)
  | .seq x y, Q, t, h =>
    cond (hasHint H.js (firstRegion y))
      (∀ k : InvT (shapes (hintOf H.js (firstRegion y))),
        (∀ h' : Heap, allTo _ k h' fun vs => ∀ g : Nat → Value, vc P H y Q (frameAt (mods x) t (hintOf H.js (firstRegion y)) g vs) h') →
        vc P H x (thenQ (fun t' h' => app _ k (vals t' (hintOf H.js (firstRegion y))) h') Q) t h)
      (vc P H x (thenQ (vc P H y Q) Q) t h)
  | .cond c x y, Q, t, h => bcase (ev t c) (vc P H x Q t h) (vc P H y Q t h)
  | .block id c, Q, t, h => vc P H c (blockQ id Q) t h
  | .loop c, Q, t, h =>
    ∃ (I : InvT (shapes (hintOf H.hs (firstRegion c)))) (m : MeaT (shapes (hintOf H.hs (firstRegion c)))),
      app _ I (vals t (hintOf H.hs (firstRegion c))) h ∧
      ∀ (g : Nat → Value) (h' : Heap), allI _ I h' fun vs =>
        vc P H c (thenQ (fun t2 h2 => app _ I (vals t2 (hintOf H.hs (firstRegion c))) h2 ∧ appM _ m (vals t2 (hintOf H.hs (firstRegion c))) h2 < appM _ m vs h') Q)
          (frameAt (mods c) t (hintOf H.hs (firstRegion c)) g vs) h'
  | .exit id, Q, t, h => Q (.ext id) t h
  | .ret, Q, t, h => Q .ret t h
  | .scope c, Q, t, h => vc P H c Q t h
  | .label _, Q, t, h => Q .nrm t h
  | _, _, _, _ => False
def resS (P : Program) : List ResultVar → List Value → Heap → (List Value → Prop) → Prop
  | [], _, _, K => K []
  | .tmp i :: l, t, h, K => resS P l t h fun vs => K (lget t i :: vs)
  | .cell i T :: l, t, h, K =>
    match lget t i with
    | .pointer a => loadK P T a h fun v => resS P l t h fun vs => K (v :: vs)
    | _ => False
def one : List Value → Value
  | [v] => v
  | vs => .tuple vs.toArray
end Go.Proofs.YtalglagdgabafaaGreat

/- The engine, part c: each operation's rule is sound. -/
namespace Go.Proofs.YtalglagdgabafaaGreat
open Go
section
variable {P : Program}
theorem XWp.sound {α : Type} {s : Sem α} : ∀ {K : α → Prop}, XWp P s K → ∃ a, K a ∧ ∀ w, s.run P w = .ok a w := by
  induction s with
  | pure a => intro K h; exact ⟨a, h, fun _ => rfl⟩
  | program k ih => intro K h; exact ih P h
  | mark m k ih => intro K h; exact ih h
  | _ => intro K h; exact h.elim
theorem onPtr_spec {a : Option Addr} {K : Nat → Nat → Prop} (h : onPtr a K) : ∃ b o, a = some ⟨b, o, none⟩ ∧ K b o := by
  unfold onPtr at h
  split at h
  · exact ⟨_, _, rfl, h⟩
  · exact h.elim
theorem cond_spec {c : Bool} {A : Prop} (h : cond c A False) : c = true ∧ A := by
  cases c
  · exact h.elim
  · exact ⟨rfl, h⟩
theorem nz_spec {n : Nat} {A : Prop} (h : nz n A) : n ≠ 0 ∧ A := by
  unfold nz at h
  cases hb : Nat.beq n 0 with
  | true => rw [hb] at h; exact h.elim
  | false => rw [hb] at h; exact ⟨fun hn => by subst hn; simp at hb, h⟩
theorem kindNo_inj {k k' : IntKind} (h : kindNo k = kindNo k') : k = k' := by
  cases k <;> cases k' <;> first | rfl | (simp [kindNo] at h)
theorem kindEq_spec {k k' : IntKind} {A : Prop} (h : kindEq k k' A) : k = k' ∧ A := by
  obtain ⟨h1, h2⟩ := cond_spec h
  exact ⟨kindNo_inj (Nat.eq_of_beq_eq_true h1), h2⟩
theorem subN_eq (a b : Nat) : subN a b = a - b := by
  unfold subN
  cases h : Nat.beq b 0 with
  | true => have := Nat.eq_of_beq_eq_true h; subst this; rfl
  | false => rfl
theorem slA_eq (a : Option Addr) (c l s : Nat) (hs : s ≠ 0) : slA a c l s = if c = l then a else a.map (·.add (l * s)) := by
  unfold slA
  cases h : Nat.beq l 0 with
  | true =>
    have := Nat.eq_of_beq_eq_true h; subst this
    cases a <;> simp [Addr.add]
  | false =>
    have hl : l ≠ 0 := fun hn => by subst hn; simp at h
    simp only [cond_false]
    split
    · rfl
    · cases a with
      | none => rfl
      | some x =>
        simp only [Option.map_some, Addr.add]
        split
        · rename_i h2
          rcases Nat.mul_eq_zero.1 h2 with h3 | h3
          · exact absurd h3 hl
          · exact absurd h3 hs
        · rfl
theorem leK_spec {lo : Option Operand} {t : List Value} {l : Int} {K : Prop} (hl : bnd t lo 0 = some l) (h : leK lo.isNone 0 l K) : 0 ≤ l ∧ K := by
  cases lo with
  | none => simp [bnd] at hl; subst hl; exact ⟨Int.le_refl 0, h⟩
  | some x => exact h
theorem addO_eq (o n : Nat) : addO o n = o + n := by
  unfold addO
  cases h : Nat.beq n 0 with
  | true => have := Nat.eq_of_beq_eq_true h; subst this; rfl
  | false => rfl
theorem add_plain (b o n : Nat) : (⟨b, o, none⟩ : Addr).add n = ⟨b, o + n, none⟩ := by
  unfold Addr.add
  split
  · rename_i h; subst h; rfl
  · rfl
def YP (P : Program) (t : List Value) (o : Oper) (v : Value) : Prop := ∀ w, (execOp (ev t) o).run P w = .ok (.value v) w
theorem nextV_spec {K : Value → Prop} {n : Next} (h : nextV K n) : ∃ v, n = .value v ∧ K v := by
  cases n <;> simp only [nextV] at h
  exact ⟨_, rfl, h⟩
theorem pure_gen {t : List Value} {o : Oper} {K : Value → Prop} (h : XWp P (execOp (ev t) o) (nextV K)) : ∃ v, K v ∧ YP P t o v := by
  obtain ⟨n, hn, hr⟩ := XWp.sound h
  obtain ⟨v, rfl, hv⟩ := nextV_spec hn
  exact ⟨v, hv, hr⟩
theorem int_run {op : BinOp} {k : IntKind} {x y : Int} {K : Value → Prop} (T : TypeId) (hop : op ≠ .shl ∧ op ≠ .shr) (h : intK op k x y K) :
    ∃ v, K v ∧ ∀ w, (binOp op T (.int k x) (.int k y)).run P w = .ok v w := by
  cases op <;> simp only [intK] at h <;>
    first
      | exact absurd rfl hop.1
      | exact absurd rfl hop.2
      | (refine ⟨_, h, fun w => ?_⟩; simp [binOp, Op.intArith, Op.intCmp, Op.intBits]; done)
      | (refine ⟨_, h.2, fun w => ?_⟩; simp [binOp, Op.intDiv, h.1]; done)
      | (refine ⟨_, h, fun w => ?_⟩; rfl)
theorem str_run {op : BinOp} {x y : ByteArray} {K : Value → Prop} (T : TypeId) (h : strK op x y K) :
    ∃ v, K v ∧ ∀ w, (binOp op T (.string x) (.string y)).run P w = .ok v w := by
  cases op <;> simp only [strK] at h <;>
    first
      | exact h.elim
      | (refine ⟨_, h, fun w => ?_⟩; simp [binOp, Op.stringOp]; done)
      | (refine ⟨_, h.2, fun w => ?_⟩; have := h.1; have hm : IntKind.i64.max = 9223372036854775807 := (by rfl); simp only [binOp, Op.stringOp]; rw [if_neg (by rw [hm]; omega)]; rfl)
theorem eqGuard_plain {op : BinOp} {T : TypeId} {x y : Operand} {a b : Value} (ha : ∀ cs, a ≠ .agg cs) (hn : a ≠ .nilIface) (w : World) : (eqGuard op T x y a b).run P w = .ok () w := by
  unfold eqGuard
  cases op <;> first | rfl | (cases a <;> first | rfl | exact absurd rfl (ha _) | exact absurd rfl hn)
theorem nil_run {op : BinOp} {T : TypeId} {x y : Value} {z : Bool} {K : Value → Prop} (hsh : ∀ w, (Op.equal T x y).run P w = .ok z w)
    (hx : (∃ a, x = .pointer a) ∨ (∃ a n c, x = .slice a n c) ∨ (∃ a, x = .map a) ∨ (∃ a, x = .bool a) ∨ (∃ a, x = .agg a))
    (hy : (∃ a, y = .pointer a) ∨ (∃ a n c, y = .slice a n c) ∨ (∃ a, y = .map a) ∨ (∃ a, y = .bool a) ∨ (∃ a, y = .agg a)) (h : nilEq op z K) :
    ∃ v, K v ∧ ∀ w, (binOp op T x y).run P w = .ok v w := by
  cases op <;> simp only [nilEq] at h
  case eql =>
    refine ⟨_, h, fun w => ?_⟩
    rcases hx with ⟨a, rfl⟩ | ⟨a, n, c, rfl⟩ | ⟨a, rfl⟩ | ⟨a, rfl⟩ | ⟨a, rfl⟩ <;> rcases hy with ⟨b, rfl⟩ | ⟨b, n', c', rfl⟩ | ⟨b, rfl⟩ | ⟨b, rfl⟩ | ⟨b, rfl⟩ <;> simp [binOp, hsh]
  case neq =>
    refine ⟨_, h, fun w => ?_⟩
    rcases hx with ⟨a, rfl⟩ | ⟨a, n, c, rfl⟩ | ⟨a, rfl⟩ | ⟨a, rfl⟩ | ⟨a, rfl⟩ <;> rcases hy with ⟨b, rfl⟩ | ⟨b, n', c', rfl⟩ | ⟨b, rfl⟩ | ⟨b, rfl⟩ | ⟨b, rfl⟩ <;> simp [binOp, hsh]
theorem run_isAgg_plain {T : TypeId} {d : TypeDesc} (h : P.underlying T = some d) (hd : (match d with | .struct _ | .array _ _ => true | _ => false) = false) (w : World) :
    (isAgg T).run P w = .ok false w := by
  simp only [isAgg, Sem.run_bind, run_underlying h, Result.andThen_ok]
  cases d <;> simp at hd <;> rfl
theorem run_part_flat {T : TypeId} (hT : (match P.underlying T with | some .bool | some (.int _) | some .string => true | _ => false) = true) {xs : Array Value} {i : Nat} {v : Value}
    (hv : xs[i]? = some v) (w : World) : (part T xs i).run P w = .ok v w := by
  have h1 : (isAgg T).run P w = .ok false w := by
    cases hu : P.underlying T with
    | none => simp [hu] at hT
    | some d => exact run_isAgg_plain hu (by cases d <;> simp [hu] at hT <;> rfl) w
  simp only [part, Sem.run_bind, h1, Result.andThen_ok, Bool.false_eq_true, if_false, hv]
  rfl
theorem run_eqV {T : TypeId} {a b : Value} {c : Bool} (d : Nat) (hT : (match P.underlying T with | some .bool | some (.int _) | some .string => true | _ => false) = true)
    (hw : (match P.underlying T, a with | some .bool, .bool _ => true | some (.int _), .int _ _ => true | some .string, .string _ => true | _, _ => false) = true) (h : eqV a b = some c) (w : World) :
    (Op.equalIn (d + 1) T a b).run P w = .ok c w := by
  cases hu : P.underlying T with
  | none => simp [hu] at hT
  | some e =>
    cases a <;> cases b <;> simp only [eqV] at h <;> try cases h
    · cases e <;> simp [hu] at hw
      exact run_equalIn_bool' w d T _ _ hu
    · rename_i k x k' y
      cases e <;> simp [hu] at hw
      cases hk : Nat.beq (kindNo k) (kindNo k') with
      | false => rw [hk] at h; cases h
      | true =>
        rw [hk] at h
        obtain rfl := kindNo_inj (Nat.eq_of_beq_eq_true hk)
        cases h; exact run_equalIn_int w d T _ _ _ _ hu
    · cases e <;> simp [hu] at hw
      exact run_equalIn_string w d T _ _ hu
theorem run_eqFields (d : Nat) (w : World) : ∀ (fs : List Field) (i : Nat) (xs ys : Array Value) (l m : List Value) (c : Bool), flat P fs i = true → fits P fs l = true →
    (∀ j v, l[j]? = some v → xs[i + j]? = some v) → (∀ j v, m[j]? = some v → ys[i + j]? = some v) → l.length = fs.length → m.length = fs.length →
    eqL l m = some c → (Op.eqFields (d + 1) xs ys fs).run P w = .ok c w
  | [], i, xs, ys, l, m, c, _, _, _, _, hl, hm, he => by
    cases l with
    | cons a l => simp at hl
    | nil => cases m with
      | cons a l => simp at hm
      | nil => simp only [eqL, Option.some.injEq] at he; subst he; simp [Op.eqFields]
  | f :: fs, i, xs, ys, l, m, c, hf, hk, h1, h2, hl, hm, he => by
    cases l with
    | nil => simp at hl
    | cons a l => cases m with
      | nil => simp at hm
      | cons b m =>
        simp only [flat, Bool.and_eq_true, beq_iff_eq, bne_iff_ne] at hf
        simp only [fits, Bool.and_eq_true] at hk
        obtain ⟨⟨⟨ho, hn⟩, hT⟩, hr⟩ := hf
        simp only [eqL] at he
        cases hab : eqV a b with
        | none => simp [hab] at he
        | some x => cases hlm : eqL l m with
          | none => simp [hab, hlm] at he
          | some y =>
            simp only [hab, hlm, Option.some.injEq] at he
            have hx := run_eqV (P := P) d hT hk.1 hab w
            have pa := run_part_flat (P := P) hT (h1 0 a rfl) w
            have pb := run_part_flat (P := P) hT (h2 0 b rfl) w
            simp only [Nat.add_zero] at pa pb
            have ih := run_eqFields d w fs (i + 1) xs ys l m y hr hk.2 (fun j v hv => by have := h1 (j + 1) v (by simpa using hv); rw [← this]; congr 1; omega)
              (fun j v hv => by have := h2 (j + 1) v (by simpa using hv); rw [← this]; congr 1; omega) (by simpa using hl) (by simpa using hm) hlm
            simp only [Op.eqFields, if_pos hn, Sem.run_bind, ho, pa, pb, hx, Result.andThen_ok, Sem.run_ite]
            cases x
            · simp only [Bool.not_false, if_true, Sem.run_pure]; subst he; rfl
            · simp only [Bool.not_true, Bool.false_eq_true, if_false]; subst he; rw [ih]; rfl
theorem run_equal_flat {T : TypeId} {fs : Array Field} {xs ys : Array Value} {c : Bool} (hu : P.underlying T = some (.struct fs)) (hp : P.stoodInHeld T = false) (hf : flat P fs.toList 0 = true)
    (hk : fits P fs.toList xs.toList = true) (hl : xs.size = fs.size) (hm : ys.size = fs.size) (he : eqL xs.toList ys.toList = some c) (w : World) : (Op.equal T (.agg xs) (.agg ys)).run P w = .ok c w := by
  have hfo : P.fieldsOf T = fs := by simp [Program.fieldsOf, hu]
  unfold Op.equal Op.maxDepth
  rw [show (10000 : Nat) = 9998 + 1 + 1 from rfl, run_equalIn_struct w (9998 + 1) T xs ys (by rw [hfo]; exact hu) hp, hfo]
  refine run_eqFields 9998 w fs.toList 0 xs ys xs.toList ys.toList c hf hk ?_ ?_ (by simpa using hl) (by simpa using hm) he
  · intro j v hv; simpa using hv
  · intro j v hv; simpa using hv
theorem run_eqPtr (d : Nat) {T e : TypeId} (hu : P.underlying T = some (.pointer e)) (p : Option Addr) (w : World) : (Op.equalIn (d + 1) T (.pointer p) (.pointer none)).run P w = .ok p.isNone w := by
  simp only [Op.equalIn, Sem.run_bind, run_underlying hu, Result.andThen_ok]
  cases p <;> rfl
theorem run_eqSl (d : Nat) {T e : TypeId} (hu : P.underlying T = some (.slice e)) (p : Option Addr) (n c n' c' : Nat) (w : World) : (Op.equalIn (d + 1) T (.slice p n c) (.slice none n' c')).run P w = .ok p.isNone w := by
  simp only [Op.equalIn, Sem.run_bind, run_underlying hu, Result.andThen_ok]
  cases p <;> rfl
theorem run_eqMap (d : Nat) {T k e : TypeId} (hu : P.underlying T = some (.map k e)) (p : Option Nat) (w : World) : (Op.equalIn (d + 1) T (.map p) (.map none)).run P w = .ok p.isNone w := by
  simp only [Op.equalIn, Sem.run_bind, run_underlying hu, Result.andThen_ok]
  cases p <;> rfl
theorem bin_run {op : BinOp} {T : TypeId} {x y : Operand} {a b : Value} {K : Value → Prop} (h : binK P op T a b K) :
    ∃ v, K v ∧ ∀ w, (do eqGuard op T x y a b; binOp op T a b : Sem Value).run P w = .ok v w := by
  unfold binK at h
  split at h
  · rename_i k p k' q
    have hg : ∀ w, (eqGuard op T x y (.int k p) (.int k' q)).run P w = .ok () w := eqGuard_plain (by simp) (by simp)
    split at h
    · obtain ⟨h0, hK⟩ := h
      refine ⟨_, hK, fun w => ?_⟩
      simp only [Sem.run_bind, hg, Result.andThen_ok]
      simp [binOp, Op.shift, show ¬ q < 0 by omega]
    · obtain ⟨h0, hK⟩ := h
      refine ⟨_, hK, fun w => ?_⟩
      simp only [Sem.run_bind, hg, Result.andThen_ok]
      simp [binOp, Op.shift, show ¬ q < 0 by omega]
    · rename_i n1 n2
      obtain ⟨hk, h2⟩ := kindEq_spec h
      · subst hk
        obtain ⟨v, hv, hr⟩ := int_run (P := P) T ⟨n1, n2⟩ h2
        exact ⟨v, hv, fun w => by simp only [Sem.run_bind, hg, Result.andThen_ok, hr]⟩
  · obtain ⟨v, hv, hr⟩ := str_run (P := P) T h
    exact ⟨v, hv, fun w => by simp only [Sem.run_bind, eqGuard_plain (P := P) (a := .string _) (by simp) (by simp), Result.andThen_ok, hr]⟩
  · split at h
    · rename_i hu
      obtain ⟨v, hv, hr⟩ := nil_run (P := P) (T := T) (fun w => run_equalIn_bool' w 9999 T _ _ hu) (.inr (.inr (.inr (.inl ⟨_, rfl⟩)))) (.inr (.inr (.inr (.inl ⟨_, rfl⟩)))) h
      exact ⟨v, hv, fun w => by simp only [Sem.run_bind, eqGuard_plain (P := P) (a := .bool _) (by simp) (by simp), Result.andThen_ok, hr]⟩
    · exact h.elim
  · rename_i p
    split at h
    · rename_i hu
      obtain ⟨v, hv, hr⟩ := nil_run (P := P) (T := T) (x := .pointer p) (y := .pointer none) (fun w => run_eqPtr 9999 hu p w) (.inl ⟨_, rfl⟩) (.inl ⟨_, rfl⟩) h
      exact ⟨v, hv, fun w => by simp only [Sem.run_bind, eqGuard_plain (P := P) (a := .pointer _) (by simp) (by simp), Result.andThen_ok, hr]⟩
    · exact h.elim
  · rename_i p n c n' c'
    split at h
    · rename_i hu
      obtain ⟨v, hv, hr⟩ := nil_run (P := P) (T := T) (x := .slice p n c) (y := .slice none n' c') (fun w => run_eqSl 9999 hu p n c n' c' w) (.inr (.inl ⟨_, _, _, rfl⟩)) (.inr (.inl ⟨_, _, _, rfl⟩)) h
      exact ⟨v, hv, fun w => by simp only [Sem.run_bind, eqGuard_plain (P := P) (a := .slice ..) (by simp) (by simp), Result.andThen_ok, hr]⟩
    · exact h.elim
  · rename_i p
    split at h
    · rename_i hu
      obtain ⟨v, hv, hr⟩ := nil_run (P := P) (T := T) (x := .map p) (y := .map none) (fun w => run_eqMap 9999 hu p w) (.inr (.inr (.inl ⟨_, rfl⟩))) (.inr (.inr (.inl ⟨_, rfl⟩))) h
      exact ⟨v, hv, fun w => by simp only [Sem.run_bind, eqGuard_plain (P := P) (a := .map _) (by simp) (by simp), Result.andThen_ok, hr]⟩
    · exact h.elim
  · rename_i xs ys
    split at h
    · rename_i fs hu
      obtain ⟨hc, h⟩ := cond_spec h
      · obtain ⟨hc2, h⟩ := cond_spec h
        simp only [Bool.and_eq_true, Bool.not_eq_true'] at hc hc2
        obtain ⟨⟨hf, hp⟩, hq⟩ := hc
        obtain ⟨⟨hk, hl⟩, hm⟩ := hc2
        have hl : xs.size = fs.size := by simpa using Nat.eq_of_beq_eq_true hl
        have hm : ys.size = fs.size := by simpa using Nat.eq_of_beq_eq_true hm
        split at h
        · rename_i c he
          have hg : ∀ w, (eqGuard op T x y (.agg xs) (.agg ys)).run P w = .ok () w := by
            intro w
            unfold eqGuard
            cases op <;> first | rfl | (simp [hq]; done) | (simp [hq]; rfl)
          obtain ⟨v, hv, hr⟩ := nil_run (P := P) (T := T) (x := .agg xs) (y := .agg ys) (run_equal_flat hu hp hf hk hl hm he) (.inr (.inr (.inr (.inr ⟨_, rfl⟩)))) (.inr (.inr (.inr (.inr ⟨_, rfl⟩)))) h
          exact ⟨v, hv, fun w => by simp only [Sem.run_bind, hg, Result.andThen_ok, hr]⟩
        · exact h.elim
    · exact h.elim
  · exact h.elim
theorem run_sizeOf1 {T : TypeId} {i : TypeInfo} (h : P.info? T = some i) (w : World) : (sizeOf T).run P w = .ok i.size w := by
  simp [sizeOf, run_typeInfo w h]
theorem lay1_some {T : TypeId} (h : lay1 P T ≠ 0) : ∃ i, P.info? T = some i ∧ i.size = lay1 P T := by
  unfold lay1 at *
  cases hi : P.info? T with
  | none => simp [hi] at h
  | some i => exact ⟨i, rfl, by simp⟩
theorem run_indexAt {T e : TypeId} {a : Option Addr} {n c b o : Nat} {k : IntKind} {z : Int} (hu : P.underlying T = some (.slice e)) (h0 : 0 ≤ z) (h1 : z < n) (ha : a = some ⟨b, o, none⟩) (hs : lay1 P e ≠ 0) (w : World) :
    (Instr.indexAt T (.slice a n c) (.int k z)).run P w = .ok (.pointer (some ⟨b, o + z.toNat * lay1 P e, none⟩)) w := by
  subst ha
  obtain ⟨i, hi, his⟩ := lay1_some hs
  simp [Instr.indexAt, asIntOf, run_underlying hu, run_sizeOf1 hi, his, h0, h1, add_plain]
theorem run_indexAt_arr {T e : TypeId} {a : Option Addr} {n b o : Nat} {k : IntKind} {z : Int} (hu : P.underlying T = some (.array n e)) (h0 : 0 ≤ z) (h1 : z < n) (ha : a = some ⟨b, o, none⟩) (hs : lay1 P e ≠ 0) (w : World) :
    (Instr.indexAt T (.pointer a) (.int k z)).run P w = .ok (.pointer (some ⟨b, o + z.toNat * lay1 P e, none⟩)) w := by
  subst ha
  obtain ⟨i, hi, his⟩ := lay1_some hs
  simp [Instr.indexAt, asIntOf, Instr.sureAddr, run_underlying hu, run_sizeOf1 hi, his, h0, h1, add_plain]
theorem run_bound {v : Value} {k : IntKind} {i : Int} (hv : v = .int k i) {y : Nat} (h0 : 0 ≤ i) (h1 : i ≤ y) (code : BoundsCode) (w : World) : (Instr.sliceBound v y code).run P w = .ok i.toNat w := by
  subst hv
  simp [Instr.sliceBound, asIntOf, h0, h1]
theorem run_bounds {t : List Value} {lo hi : Option Operand} {n c : Nat} {l r : Int} (sl : Bool) (hl : bnd t lo 0 = some l) (hr : bnd t hi n = some r) (h0 : 0 ≤ l) (h1 : l ≤ r) (h2 : r ≤ c) (w : World) :
    (Instr.sliceBounds sl n c (lo.map (ev t)) (hi.map (ev t)) none).run P w = .ok (l.toNat, r.toNat, c) w := by
  have H : ∀ (x : Option Operand) (d : Int) (i : Int), bnd t x d = some i → (x = none ∧ i = d) ∨ ∃ o k, x = some o ∧ ev t o = .int k i := by
    intro x d i h
    cases x with
    | none => simp [bnd] at h; exact .inl ⟨rfl, h.symm⟩
    | some o =>
      simp only [bnd] at h
      split at h
      · rename_i k z hz; simp at h; subst h; exact .inr ⟨o, k, rfl, hz⟩
      · cases h
  rcases H _ _ _ hl with ⟨rfl, rfl⟩ | ⟨ol, kl, rfl, hel⟩ <;> rcases H _ _ _ hr with ⟨rfl, rfl⟩ | ⟨oh, kh, rfl, heh⟩
  · simp [Instr.sliceBounds]
  · simp [Instr.sliceBounds, run_bound (P := P) heh (show 0 ≤ r by omega) h2]
  · simp [Instr.sliceBounds, run_bound (P := P) hel h0 (show l ≤ (n : Nat) by omega)]
  · simp [Instr.sliceBounds, run_bound (P := P) heh (show 0 ≤ r by omega) h2, run_bound (P := P) hel h0 (show l ≤ (r.toNat : Nat) by omega)]
theorem run_bounds3 {t : List Value} {lo hi : Option Operand} {mx : Operand} {n c : Nat} {l r m : Int} (sl : Bool) (hh : hi.isSome = true) (hl : bnd t lo 0 = some l) (hr : bnd t hi n = some r) (hm : bnd t (some mx) 0 = some m) (h0 : 0 ≤ l) (h1 : l ≤ r) (h2 : r ≤ m) (h3 : m ≤ c) (w : World) :
    (Instr.sliceBounds sl n c (lo.map (ev t)) (hi.map (ev t)) (some (ev t mx))).run P w = .ok (l.toNat, r.toNat, m.toNat) w := by
  have H : ∀ (x : Option Operand) (d : Int) (i : Int), bnd t x d = some i → (x = none ∧ i = d) ∨ ∃ o k, x = some o ∧ ev t o = .int k i := by
    intro x d i h
    cases x with
    | none => simp [bnd] at h; exact .inl ⟨rfl, h.symm⟩
    | some o =>
      simp only [bnd] at h
      split at h
      · rename_i k z hz; simp at h; subst h; exact .inr ⟨o, k, rfl, hz⟩
      · cases h
  obtain ⟨hN, -⟩ | ⟨om, km, hom, hem⟩ := H _ _ _ hm
  · cases hN
  cases hom
  rcases H _ _ _ hl with ⟨rfl, rfl⟩ | ⟨ol, kl, rfl, hel⟩ <;> rcases H _ _ _ hr with ⟨rfl, rfl⟩ | ⟨oh, kh, rfl, heh⟩
  · simp at hh
  · simp [Instr.sliceBounds, run_bound (P := P) hem (show 0 ≤ m by omega) h3, run_bound (P := P) heh (show 0 ≤ r by omega) (show r ≤ (m.toNat : Nat) by omega)]
  · simp at hh
  · simp [Instr.sliceBounds, run_bound (P := P) hem (show 0 ≤ m by omega) h3, run_bound (P := P) heh (show 0 ≤ r by omega) (show r ≤ (m.toNat : Nat) by omega), run_bound (P := P) hel h0 (show l ≤ (r.toNat : Nat) by omega)]
theorem splice_nil (l : List Value) (o : Nat) : splice l o [] = l := by cases l <;> cases o <;> rfl
theorem splice_cons : ∀ (l : List Value) (o : Nat) (v : Value) (vs : List Value), o < l.length → splice l o (v :: vs) = splice (l.set o v) (o + 1) vs
  | [], _, _, _, h => by simp at h
  | x :: l, 0, v, [], _ => by simp [splice, splice_nil]
  | x :: l, 0, v, u :: vs, _ => by simp [splice]
  | x :: l, o + 1, v, [], h => by
    simp only [splice, List.set_cons_succ]
    rw [splice_cons l o v [] (by simpa using h)]
    simp [splice_nil]
  | x :: l, o + 1, v, u :: vs, h => by
    simp only [splice, List.set_cons_succ]
    rw [splice_cons l o v (u :: vs) (by simpa using h)]
theorem splice_length : ∀ (l : List Value) (o : Nat) (vs : List Value), (splice l o vs).length = l.length
  | l, o, [] => by rw [splice_nil]
  | [], o, v :: vs => by simp [splice]
  | x :: l, 0, v :: vs => by simp [splice, splice_length l 0 vs]
  | x :: l, o + 1, v :: vs => by simp [splice, splice_length l o (v :: vs)]
theorem fold_splice : ∀ (vs : List Value) (l : List Value) (o k : Nat), o + k + vs.length ≤ l.length →
    (vs.zipIdx k).foldl (fun (cs : Array Value) (x : Value × Nat) => cs.setIfInBounds (o + x.2) x.1) l.toArray = (splice l (o + k) vs).toArray
  | [], l, o, k, _ => by simp [splice_nil]
  | v :: vs, l, o, k, h => by
    simp only [List.length_cons] at h
    rw [List.zipIdx_cons, List.foldl_cons, List.setIfInBounds_toArray, fold_splice vs _ o (k + 1) (by simp; omega), splice_cons _ _ _ _ (by omega)]
    rfl
theorem fill_list {place : Nat → Option (Nat × Nat)} : ∀ {ps : List (Nat × Value)} {l l' : List Value}, fillL place l ps = some l' → Instr.fill place l.toArray ps = some l'.toArray
  | [], l, l', h => by simp only [fillL, Option.some.injEq] at h; subst h; rfl
  | (i, v) :: ps, l, l', h => by
    simp only [fillL] at h
    cases hp : place i with
    | none => rw [hp] at h; cases h
    | some os =>
      obtain ⟨o, s⟩ := os
      rw [hp] at h
      simp only at h
      cases hc : (Nat.beq v.cells.toList.length s && Nat.ble (o + v.cells.toList.length) l.length) with
      | false => rw [hc] at h; cases h
      | true =>
        rw [hc] at h
        rw [Bool.and_eq_true] at hc
        have h1 : v.cells.size = s := by simpa using Nat.eq_of_beq_eq_true hc.1
        have h2 : o + v.cells.toList.length ≤ l.length := Nat.le_of_ble_eq_true hc.2
        have h3 : o + v.cells.size ≤ l.length := by simpa using h2
        unfold Instr.fill
        rw [hp]
        simp only [h1, ne_eq, not_true_eq_false, decide_false, Bool.false_or]
        rw [if_neg (by simp; omega)]
        have key := fold_splice v.cells.toList l o 0 (by simpa using h2)
        rw [← Array.foldl_toList, Array.toList_zipIdx]
        rw [key]
        exact fill_list h
theorem run_places (fs : List Field) (h : allLaid P fs = true) (w : World) :
    (fs.mapM (m := Sem) fun f => do pure (f.offset, ← sizeOf f.type)).run P w = .ok (fs.map fun f => (f.offset, lay1 P f.type)) w := by
  induction fs with
  | nil => rfl
  | cons f fs ih =>
    simp only [allLaid, Bool.and_eq_true, Bool.not_eq_true'] at h
    obtain ⟨i, hi, hs⟩ := lay1_some (P := P) (T := f.type) (fun h0 => by rw [h0] at h; simp at h)
    simp only [List.mapM_cons, Sem.run_bind, run_sizeOf1 hi, Result.andThen_ok, Sem.run_pure, ih h.2, hs]
    rfl
theorem pure_sound {t : List Value} {o : Oper} {K : Value → Prop} (h : pureK P t o K) : ∃ v, K v ∧ YP P t o v := by
  obtain ⟨dst, op, ty, pos, after, guard⟩ := o
  cases op <;> simp only [pureK] at h
  case move x => exact ⟨_, h, fun w => rfl⟩
  case assign x => exact ⟨_, h, fun w => rfl⟩
  case pick c a b =>
    unfold pickK at h
    split at h
    · rename_i c' x y hc ha hb
      refine ⟨_, h, fun w => ?_⟩
      simp only [execOp, hc, ha, hb]
      cases c' <;> rfl
    · rename_i c' hno hc
      cases c'
      · exact ⟨_, h, fun w => by simp [execOp, hno, asBool]⟩
      · exact ⟨_, h, fun w => by simp [execOp, hno, asBool]⟩
    · exact h.elim
  case nilCheck x =>
    split at h
    · rename_i a ha
      obtain ⟨b, o, rfl, hK⟩ := onPtr_spec h
      exact ⟨_, hK, fun w => by simp [execOp, ha]⟩
    · rename_i f a b ha
      exact ⟨_, h, fun w => by simp [execOp, ha]⟩
    · exact h.elim
  case binOp op' T x y yt =>
    obtain ⟨v, hv, hr⟩ := bin_run (x := x) (y := y) h
    exact ⟨v, hv, fun w => by
      have := hr w
      simp only [execOp]
      rw [Sem.run_bind, this]
      rfl⟩
  case fieldAddr s x f =>
    split at h
    · rename_i fs a hu ha
      split at h
      · rename_i fd hfd
        obtain ⟨hz, h⟩ := nz_spec h
        · obtain ⟨b, o, rfl, hK⟩ := onPtr_spec h
          obtain ⟨i, hi, his⟩ := lay1_some hz
          refine ⟨_, hK, fun w => ?_⟩
          simp [execOp, Instr.fieldAt, ha, run_underlying hu, hfd, Instr.sureAddr, fieldPlace, run_sizeOf1 hi, his, hz, add_plain, addO_eq]
      · exact h.elim
    · exact h.elim
  case indexAddr T x i =>
    split at h
    · rename_i e a n c k z hu ha hz
      obtain ⟨b, o, ho, h0, h1, hK⟩ := onPtr_spec h
      obtain ⟨hs, hK⟩ := nz_spec hK
      exact ⟨_, hK, fun w => by simp [execOp, ha, hz, run_indexAt hu h0 h1 ho hs]⟩
    · rename_i n e a k z hu ha hz
      obtain ⟨b, o, ho, h0, h1, hK⟩ := onPtr_spec h
      obtain ⟨hs, hK⟩ := nz_spec hK
      exact ⟨_, hK, fun w => by simp [execOp, ha, hz, run_indexAt_arr hu h0 h1 ho hs]⟩
    · exact h.elim
  case index T x i =>
    split at h
    · rename_i s k z hu ha hz
      obtain ⟨h0, h1, hK⟩ := h
      refine ⟨_, hK, fun w => ?_⟩
      have hlt : z.toNat < s.size := by omega
      have hg : s[z.toNat]? = some (s.data.getD z.toNat 0) := by
        rw [getElem?_pos s z.toNat hlt]
        have : s.data.size = s.size := rfl
        simp [Array.getD, this, hlt]
        rfl
      simp [execOp, Instr.index, ha, hz, asIntOf, run_underlying hu, h0, hg]
    · exact pure_gen h
  case build T ps =>
    split at h
    · rename_i fs i hu hi
      split at h
      · rename_i cs hz
        obtain ⟨hl, h⟩ := cond_spec h
        split at h
        · rename_i l hf
          refine ⟨_, h, fun w => ?_⟩
          have hzero : (zeroValue T).run P w = .ok (.agg cs) w := by simp [zeroValue, run_typeInfo w hi, hz]
          have hpl : (fs.mapM (m := Sem) fun f => do pure (f.offset, ← sizeOf f.type)).run P w = .ok ((fs.toList.map fun f => (f.offset, lay1 P f.type)).toArray) w := by
            rw [Array.mapM_eq_mapM_toList, Sem.run_map, run_places _ hl w]; rfl
          have hfn : (fun i => ((fs.toList.map fun f => (f.offset, lay1 P f.type)).toArray)[i]?) = placeOf P fs.toList := by
            funext j
            simp only [placeOf, List.getElem?_toArray, List.getElem?_map]
            cases fs.toList[j]? <;> rfl
          have hpa : (ps.map fun (x : Nat × Operand) => (x.1, ev t x.2)).toList = ps.toList.map fun p => (p.1, ev t p.2) := by simp
          have hfill := fill_list hf
          simp only [Array.toArray_toList] at hfill
          simp only [execOp, Instr.build, Sem.run_bind, hzero, Result.andThen_ok, run_underlying hu, hpl]
          show Result.andThen (Sem.run P (match Instr.fill (fun i => ((fs.toList.map fun f => (f.offset, lay1 P f.type)).toArray)[i]?) (Value.agg cs).cells (ps.map fun (x : Nat × Operand) => (x.1, ev t x.2)).toList with
            | some cells => pure (Value.agg cells) | _ => stuck "build: no such field, or a part of the wrong size") w) _ = _
          rw [hfn, hpa]
          show Result.andThen (Sem.run P (match Instr.fill (placeOf P fs.toList) cs (ps.toList.map fun p => (p.1, ev t p.2)) with
            | some cells => pure (Value.agg cells) | _ => stuck "build: no such field, or a part of the wrong size") w) _ = _
          rw [hfill]
          rfl
        · exact h.elim
      · exact h.elim
    · exact pure_gen h
  case slice T x lo hi mx =>
    split at h
    · rename_i e a n c hu ha
      split at h
      · rename_i l r hl hr
        obtain ⟨h0, h1, h2, hK⟩ := leK_spec hl h
        obtain ⟨hs, hK⟩ := nz_spec hK
        rw [slA_eq _ _ _ _ hs, subN_eq, subN_eq] at hK
        obtain ⟨i, hi', his⟩ := lay1_some hs
        refine ⟨_, hK, fun w => ?_⟩
        have hb := run_bounds (P := P) (t := t) (n := n) (c := c) true hl hr h0 h1 h2
        simp [execOp, Instr.sliceAt, Instr.slice, ha, run_underlying hu, hb, run_sizeOf1 hi', his]
      · exact h.elim
    · rename_i s hu ha
      split at h
      · rename_i l r hl hr
        obtain ⟨h0, h1, h2, hK⟩ := leK_spec hl h
        refine ⟨_, hK, fun w => ?_⟩
        have hb := run_bounds (P := P) (t := t) (n := s.size) (c := s.size) false hl hr h0 h1 h2
        simp [execOp, Instr.sliceAt, Instr.slice, ha, run_underlying hu, hb]
      · exact h.elim
    · rename_i e a n c mx hu ha
      split at h
      · rename_i l r m hl hr hm
        obtain ⟨hh, h⟩ := cond_spec h
        obtain ⟨h0, h1, h2, h3, hK⟩ := leK_spec hl h
        obtain ⟨hs, hK⟩ := nz_spec hK
        rw [slA_eq _ _ _ _ hs, subN_eq, subN_eq] at hK
        obtain ⟨i, hi', his⟩ := lay1_some hs
        refine ⟨_, hK, fun w => ?_⟩
        have hb := run_bounds3 (P := P) (t := t) (n := n) (c := c) true hh hl hr hm h0 h1 h2 h3
        simp [execOp, Instr.sliceAt, Instr.slice, ha, run_underlying hu, hb, run_sizeOf1 hi', his]
      · exact h.elim
    · rename_i A a hu ha
      split at h
      · rename_i n e hA
        split at h
        · rename_i l r hl hr
          obtain ⟨b, o, rfl, h⟩ := onPtr_spec h
          obtain ⟨h0, h1, h2, hK⟩ := leK_spec hl h
          obtain ⟨hs, hK⟩ := nz_spec hK
          rw [slA_eq _ _ _ _ hs, subN_eq, subN_eq] at hK
          obtain ⟨i, hi', his⟩ := lay1_some hs
          refine ⟨_, hK, fun w => ?_⟩
          have hb := run_bounds (P := P) (t := t) (n := n) (c := n) false hl hr h0 h1 h2
          simp [execOp, Instr.sliceAt, Instr.slice, ha, run_underlying hu, run_underlying hA, hb, run_sizeOf1 hi', his, asAddr]
          by_cases hc : n = l.toNat <;> simp [hc]
        · exact h.elim
      · exact h.elim
    · rename_i n e a hu ha
      split at h
      · rename_i l r hl hr
        obtain ⟨b, o, rfl, h⟩ := onPtr_spec h
        obtain ⟨h0, h1, h2, hK⟩ := leK_spec hl h
        obtain ⟨hs, hK⟩ := nz_spec hK
        rw [slA_eq _ _ _ _ hs, subN_eq, subN_eq] at hK
        obtain ⟨i, hi', his⟩ := lay1_some hs
        refine ⟨_, hK, fun w => ?_⟩
        have hb := run_bounds (P := P) (t := t) (n := n) (c := n) false hl hr h0 h1 h2
        simp [execOp, Instr.sliceAt, Instr.sureAddr, ha, run_underlying hu, hb, run_sizeOf1 hi', his]
        by_cases hc : n = l.toNat <;> simp [hc]
      · exact h.elim
    · exact h.elim
  all_goals exact pure_gen h
end
end Go.Proofs.YtalglagdgabafaaGreat

/- The engine, part d: reads, writes and calls; lists of operations. -/
namespace Go.Proofs.YtalglagdgabafaaGreat
open Go
section
variable {P : Program}
theorem Sh.Ex_spec {y : Sh} {f : Value → Prop} (h : y.Ex f) : ∃ v, f v := by
  cases y <;> simp only [Sh.Ex] at h
  case sl => obtain ⟨a, n, c, h⟩ := h; exact ⟨_, h⟩
  all_goals (obtain ⟨x, h⟩ := h; exact ⟨_, h⟩)
theorem exL_spec : ∀ {l : List Value} {f : List Value → Prop}, exL l f → ∃ vs, f vs
  | [], _, h => ⟨[], h⟩
  | _ :: _, _, h => let ⟨_, h1⟩ := Sh.Ex_spec h; let ⟨_, h2⟩ := exL_spec h1; ⟨_, h2⟩
theorem exE_spec {z : Value} {f : Value → Prop} (h : exE z f) : ∃ v, f v := by
  unfold exE at h
  split at h
  · obtain ⟨vs, h⟩ := exL_spec h; exact ⟨_, h⟩
  · exact Sh.Ex_spec h
theorem exT_spec : ∀ {l : List Value} {f : List Value → Prop}, exT l f → ∃ vs, f vs
  | [], _, h => ⟨[], h⟩
  | _ :: _, _, h => let ⟨_, h1⟩ := exE_spec h; let ⟨_, h2⟩ := exT_spec h1; ⟨_, h2⟩
theorem exZ_spec {z : Value} {f : Value → Prop} (h : exZ z f) : ∃ v, f v := by
  unfold exZ at h
  split at h
  · obtain ⟨vs, h⟩ := exT_spec h; exact ⟨_, h⟩
  · exact exE_spec h
theorem typed_spec {T : TypeId} {K : Value → Heap → Prop} {v : Value} {h : Heap} (hh : typed P T K v h) : K v h := by
  obtain ⟨v', rfl, hK⟩ := exZ_spec hh
  exact hK
theorem layOf_one {T : TypeId} {z : Value} (h : layOf P T = some (.one z)) : (∀ w, (isAgg T).run P w = .ok false w) ∧ single z = true ∧ ∃ i, P.info? T = some i ∧ i.size = 1 := by
  unfold layOf at h
  split at h
  · split at h <;> (try split at h) <;> simp at h
  · split at h <;> (try split at h) <;> simp at h
  · rename_i d i n1 n2 hu hi
    split at h
    · rename_i z' hz
      split at h
      · rename_i hs
        simp at h; subst h
        exact ⟨fun w => run_isAgg_plain hu (by cases d <;> first | rfl | exact absurd rfl (n1 _) | exact absurd rfl (n2 _ _)) w, hs.1, i, hi, hs.2⟩
      · cases h
    · cases h
  · cases h
theorem layOf_many {T : TypeId} {cs : List Value} (h : layOf P T = some (.many cs)) : (∀ w, (isAgg T).run P w = .ok true w) ∧ ∃ i, P.info? T = some i ∧ i.size = cs.length := by
  unfold layOf at h
  split at h
  · rename_i fs i hu hi
    split at h
    · rename_i cs' hz
      split at h
      · rename_i hs
        simp at h; subst h
        exact ⟨fun w => by simp [isAgg, run_underlying hu], i, hi, by simpa using hs.symm⟩
      · cases h
    · cases h
  · rename_i n e i hu hi
    split at h
    · rename_i cs' hz
      split at h
      · rename_i hs
        simp at h; subst h
        exact ⟨fun w => by simp [isAgg, run_underlying hu], i, hi, by simpa using hs.symm⟩
      · cases h
    · cases h
  · split at h <;> (try split at h) <;> simp at h
  · cases h
theorem loadS_spec {h : Heap} {b o : Nat} : ∀ {l : List Value} {i : Nat} {K : List Value → Prop}, loadS h b o l i K →
    ∃ vs, vs.length = l.length ∧ (∀ j v, vs[j]? = some v → hcell h ⟨b, o + (i + j), none⟩ = some v) ∧ K vs
  | [], i, K, hh => ⟨[], rfl, fun j v hv => by simp at hv, hh⟩
  | z :: l, i, K, hh => by
    obtain ⟨v, hv, h2⟩ := Sh.Ex_spec hh
    obtain ⟨vs, hl, hc, hK⟩ := loadS_spec h2
    refine ⟨v :: vs, by simp [hl], fun j u hu => ?_, hK⟩
    cases j with
    | zero => simp at hu; subst hu; rw [addO_eq] at hv; simpa using hv
    | succ j => have := hc j u (by simpa using hu); rw [show i + (j + 1) = i + 1 + j by omega]; exact this
theorem loadK_spec {T : TypeId} {a : Option Addr} {h : Heap} {K : Value → Prop} (hh : loadK P T a h K) :
    ∃ b o v, a = some ⟨b, o, none⟩ ∧ K v ∧ ∀ w : World, w.heap = h → (loadVar T ⟨b, o, none⟩).run P w = .ok v w := by
  unfold loadK at hh
  split at hh
  · rename_i z hl
    obtain ⟨b, o, rfl, h1⟩ := onPtr_spec hh
    obtain ⟨v, hv, hK⟩ := Sh.Ex_spec h1
    obtain ⟨ha, -, -⟩ := layOf_one hl
    refine ⟨b, o, v, rfl, hK, fun w hw => ?_⟩
    have hv' : w.cell? ⟨b, o, none⟩ = some v := by subst hw; exact hv
    simp [loadVar, ha, Go.load, Sem.run, hv']
  · rename_i cs hl
    obtain ⟨b, o, rfl, h1⟩ := onPtr_spec hh
    obtain ⟨vs, hlen, hc, hK⟩ := loadS_spec h1
    obtain ⟨ha, i, hi, hs⟩ := layOf_many hl
    refine ⟨b, o, _, rfl, hK, fun w hw => ?_⟩
    have hr : (loadCells ⟨b, o, none⟩ vs.length).run P w = .ok vs.toArray w :=
      run_loadCells_list (P := P) w ⟨b, o, none⟩ vs (fun j v hv => by subst hw; rw [add_plain]; have := hc j v hv; rw [Nat.zero_add] at this; exact this)
    simp [loadVar, ha, run_sizeOf1 hi, hs, ← hlen, hr]
  · exact hh.elim
theorem storeCells_spec {b o : Nat} : ∀ {vs : List Value} {i : Nat} {h : Heap} {K : Heap → Prop}, storeS b o vs i h K → SWp P (storeCells ⟨b, o, none⟩ vs i) h fun _ h' => K h'
  | [], _, _, _, hh => hh
  | v :: vs, i, h, K, hh => by
    obtain ⟨h1, h2, h3, h4⟩ := hh
    unfold storeCells
    refine SWp.bind ?_
    rw [addO_eq] at h2 h3 h4
    exact ⟨h1, by rw [add_plain]; exact h2, by rw [add_plain]; exact h3, by rw [add_plain]; exact storeCells_spec h4⟩
theorem SWp_prog {α : Type} {s : Sem α} {h : Heap} {K : α → Heap → Prop} {a : α} (_hr : ∀ w, s.run P w = .ok a w) (hx : XWp P s (fun b => b = a)) (hK : K a h) : SWp P s h K := by
  clear _hr
  induction s with
  | pure b => cases hx; exact hK
  | program k ih => exact ih P hx
  | mark m k ih => exact ih hx
  | _ => exact hx.elim
theorem XWp_sizeOf {T : TypeId} {i : TypeInfo} (h : P.info? T = some i) : XWp P (sizeOf T) (fun b => b = i.size) := by
  show XWp P (Sem.bind (typeInfo T) _) _
  unfold typeInfo
  show XWp P (Sem.bind (Sem.bind program _) _) _
  simp only [program, Sem.bind, XWp, h]
  rfl
theorem storeVar_one {T : TypeId} {b o : Nat} {v : Value} {h : Heap} {K : Heap → Prop} {z : Value} (hl : layOf P T = some (.one z)) (hh : stK h ⟨b, o, none⟩ v K) : SWp P (storeVar T ⟨b, o, none⟩ v) h fun _ h' => K h' := by
  obtain ⟨-, -, i, hi, hs⟩ := layOf_one hl
  unfold storeVar
  refine SWp.bind (SWp_prog (a := i.size) (run_sizeOf1 hi) (XWp_sizeOf hi) ?_)
  obtain ⟨h1, h2, h3, h4⟩ := hh
  have hc : v.cells = #[v] := by cases v <;> simp [single] at h1 <;> rfl
  rw [hs, hc, if_neg (by simp)]
  refine SWp.bind ?_
  exact storeCells_spec (vs := [v]) (i := 0) ⟨h1, by rw [addO_eq]; exact h2, by rw [addO_eq]; exact h3, by rw [addO_eq]; exact h4⟩
theorem storeVar_many {T : TypeId} {b o : Nat} {vs : Array Value} {h : Heap} {K : Heap → Prop} {cs : List Value} (hl : layOf P T = some (.many cs)) (hn : cs.length = vs.size) (hh : storeS b o vs.toList 0 h K) :
    SWp P (storeVar T ⟨b, o, none⟩ (.agg vs)) h fun _ h' => K h' := by
  obtain ⟨-, i, hi, hs⟩ := layOf_many hl
  unfold storeVar
  refine SWp.bind (SWp_prog (a := i.size) (run_sizeOf1 hi) (XWp_sizeOf hi) ?_)
  rw [hs, if_neg (by simp [Value.cells, hn])]
  exact storeCells_spec hh
theorem call_gen {g : FuncId} (hc : Callable P g) {args : Array Value} {h : Heap} {K : Next → Heap → Prop} (hK : K (.enter g args) h) : SWp P (callFunc g args) h K := by
  obtain ⟨fn, hf, hn, hb⟩ := hc
  unfold callFunc
  show SWp P (Sem.bind program _) h K
  simp only [program, Sem.bind, SWp, hf]
  rw [if_neg (by rw [hn]; simp), if_neg (by rw [hb]; simp)]
  exact hK
theorem eff_sound {H : Hn} {t : List Value} {o : Oper} {h : Heap} {K : Value → Heap → Prop} (hh : effK P H t o h K) : SWp P (execOp (ev t) o) h (nextK P K) := by
  obtain ⟨dst, op, ty, pos, after, guard⟩ := o
  cases op <;> simp only [effK] at hh
  case store T a x =>
    split at hh
    · rename_i ad ha
      simp only [execOp]
      refine SWp.bind ?_
      simp only [Instr.storeAt]
      refine SWp.bind ?_
      rw [ha]
      unfold storeK at hh
      split at hh
      · rename_i z x' hl
        obtain ⟨b, o, rfl, h1⟩ := onPtr_spec hh
        exact storeVar_one hl h1
      · rename_i cs vs hl hx
        obtain ⟨b, o, rfl, h1⟩ := onPtr_spec hh
        obtain ⟨h1, h2⟩ := cond_spec h1
        rw [hx]
        exact storeVar_many hl (by simpa using Nat.eq_of_beq_eq_true h1) h2
      · exact hh.elim
    · exact hh.elim
  case box T x => exact hh
  case alloc T =>
    split at hh
    · rename_i z hz
      cases hi : P.info? T with
      | none => simp [hi] at hz
      | some i =>
        simp [hi] at hz
        simp only [execOp, Instr.alloc]
        refine SWp.bind (SWp.bind ?_)
        unfold zeroValue typeInfo
        refine SWp.bind (SWp.bind ?_)
        show SWp P (match P.info? T with | some i => pure i | none => stuck "no such type") h _
        rw [hi]
        show SWp P (match i.zero with | some v => pure v | none => unsupported (.resourceLimit "a value of more than 2^22 cells")) h _
        rw [hz]
        exact hh
    · exact hh.elim
  case buildSlice T n ps =>
    split at hh
    · rename_i e hu
      split at hh
      · rename_i i hi
        split at hh
        · rename_i z hz
          obtain ⟨hc, hh⟩ := cond_spec hh
          rw [Bool.and_eq_true, Bool.not_eq_true'] at hc
          split at hh
          · rename_i cells hf
            have h1 : ¬ n * i.size > 2 ^ 24 := by have := Nat.le_of_ble_eq_true hc.1; omega
            have h2 : n * i.size ≠ 0 := fun h0 => by rw [h0] at hc; simp at hc
            simp only [execOp, Instr.buildSlice]
            refine SWp.bind (SWp.bind ?_)
            unfold underlying
            refine SWp.bind ?_
            show SWp P (match P.underlying T with | some d => pure d | none => stuck "no such type") h _
            rw [hu]
            show SWp P (sizeOf e >>= _) h _
            refine SWp.bind (SWp_prog (a := i.size) (run_sizeOf1 hi) (XWp_sizeOf hi) ?_)
            rw [if_neg h1]
            rw [if_neg h2]
            refine SWp.bind (SWp.bind ?_)
            unfold typeInfo
            refine SWp.bind ?_
            show SWp P (match P.info? e with | some i => pure i | none => stuck "no such type") h _
            rw [hi]
            show SWp P (match i.zero with | some v => pure v | none => unsupported (.resourceLimit "a value of more than 2^22 cells")) h _
            rw [hz]
            refine SWp.bind ?_
            have hpa : (ps.map fun (x : Nat × Operand) => (x.1, ev t x.2)).toList = ps.toList.map fun p => (p.1, ev t p.2) := by simp
            have hra : (Array.range (n * i.size)).map (fun j => z.cells[j % z.cells.size]!) = ((List.range (n * i.size)).map fun j => z.cells[j % z.cells.size]!).toArray := by
              apply Array.ext'; simp
            have hfill := fill_list hf
            show SWp P (match Instr.fill (fun j => some (j * i.size, i.size)) ((Array.range (n * i.size)).map (z.cells[· % z.cells.size]!)) (ps.map fun (j, x) => (j, ev t x)).toList with
              | some cells => (do let a ← newRow e cells; pure (Value.slice (some a) n n) : Sem Value) | _ => stuck "buildSlice: a part of the wrong size") h _
            rw [hra]
            show SWp P (match Instr.fill (fun j => some (j * i.size, i.size)) ((List.range (n * i.size)).map fun j => z.cells[j % z.cells.size]!).toArray (ps.map fun (x : Nat × Operand) => (x.1, ev t x.2)).toList with
              | some cells => (do let a ← newRow e cells; pure (Value.slice (some a) n n) : Sem Value) | _ => stuck "buildSlice: a part of the wrong size") h _
            rw [hpa, hfill]
            exact hh
          · exact hh.elim
        · exact hh.elim
      · exact hh.elim
    · exact hh.elim
  case makeMap T r =>
    cases r with
    | none => exact hh
    | some x => exact hh
  case mapUpdate T m k v =>
    simp only [execOp]
    exact SWp.bind hh
  case makeSlice T l c =>
    simp only [execOp]
    exact SWp.bind (SWp.mono (fun v h' hv => typed_spec hv) hh)
  case range T x =>
    simp only [execOp]
    exact SWp.bind hh
  case mapEntry T m k =>
    simp only [execOp]
    exact SWp.bind hh
  case entryStore T m s v =>
    simp only [execOp]
    exact SWp.bind hh
  case next it str =>
    cases str
    · simp only [execOp]
      refine SWp.bind (SWp.mono (fun v h' hv => ?_) hh)
      rcases hv with ⟨rfl, hK⟩ | ⟨k, x, rfl, hK⟩
      · exact hK
      · exact hK
    · simp only [execOp]
      refine SWp.bind (SWp.mono (fun v h' hv => ?_) hh)
      rcases hv with ⟨rfl, hK⟩ | ⟨k, x, rfl, hK⟩
      · exact hK
      · exact hK
  case entry it =>
    simp only [execOp]
    unfold entryK at hh
    split at hh
    · refine SWp.bind (SWp.mono (fun v h' hv => ?_) hh)
      obtain ⟨a, ha⟩ := exE_spec hv
      obtain ⟨b, rfl, hK⟩ := exE_spec ha
      exact hK
    · exact hh.elim
  case call c =>
    obtain ⟨callee, args, argTypes⟩ := c
    have hargs : args.map (ev t) = (args.toList.map (ev t)).toArray := by apply Array.ext'; rw [Array.toList_map]
    simp only at hh
    split at hh
    · rename_i f
      unfold CallV at hh
      split at hh
      · rename_i g first captured hf
        simp only [execOp, resolve, hf, Deferred.ofValue]
        refine call_gen hh.1 ?_
        refine Run.mono (R := typed P ty K) ?_ (fun v h' hv => typed_spec hv)
        have he : (first ++ args.map (ev t) ++ captured).toList = first.toList ++ args.toList.map (ev t) ++ captured.toList := by simp
        rw [he]; exact hh
      · exact hh.elim
    · split at hh
      · rename_i s x hl
        have hm : args.map (ev t) = #[ev t s, ev t x] := by rw [hargs, hl]; rfl
        simp only [execOp, resolve, hm]
        exact SWp.bind (SWp.bind (SWp.mono (fun v h' hv => typed_spec hv) hh))
      · exact hh.elim
    · split at hh
      · rename_i s x hl
        have hm : args.map (ev t) = #[ev t s, ev t x] := by rw [hargs, hl]; rfl
        simp only [execOp, resolve, hm]
        exact SWp.bind (SWp.bind (SWp.mono (fun v h' hv => typed_spec hv) hh))
      · exact hh.elim
    · split at hh
      · rename_i s x hl
        have hm : args.map (ev t) = #[ev t s, ev t x] := by rw [hargs, hl]; rfl
        simp only [execOp, resolve, hm]
        exact SWp.bind (SWp.bind hh)
      · exact hh.elim
    · split at hh
      · rename_i x hl
        have hm : args.map (ev t) = #[ev t x] := by rw [hargs, hl]; rfl
        simp only [execOp, resolve, hm]
        exact SWp.bind (SWp.bind hh)
      · exact hh.elim
    · exact hh
  all_goals exact hh
end
end Go.Proofs.YtalglagdgabafaaGreat

/- The engine, part e: regions (in order, and those that draw their order). -/
namespace Go.Proofs.YtalglagdgabafaaGreat
open Go
section
variable {P : Program}
theorem lget_eq : ∀ (l : List Value) (i : Nat), lget l i = l.getD i undef
  | [], i => by simp [lget]
  | v :: l, 0 => by simp [lget]
  | v :: l, i + 1 => by simp only [lget, lget_eq l i]; simp
theorem lset_eq : ∀ (l : List Value) (i : Nat) (v : Value), lset l i v = l.set i v
  | [], i, v => by simp [lset]
  | x :: l, 0, v => by simp [lset]
  | x :: l, i + 1, v => by simp only [lset, lset_eq l i]; simp
theorem eval_eq (a : Act) : a.eval = ev a.tmps.toList := by
  funext x
  cases x with
  | tmp i => simp only [Act.eval, ev, lget_eq]; simp [Array.getD_eq_getD_getElem?]
  | _ => rfl
theorem put_list (a : Act) (d : Option Tmp) (v : Value) : (a.put d v).tmps.toList = lput a.tmps.toList d v := by
  cases d with
  | none => rfl
  | some i => simp [Act.put, lput, lset_eq]
theorem put_defers' (a : Act) (d : Option Tmp) (v : Value) : (a.put d v).defers = a.defers := by cases d <;> rfl
theorem lget_lset_ne : ∀ (l : List Value) {i j : Nat} (v : Value), i ≠ j → lget (lset l i v) j = lget l j
  | [], _, _, _, _ => rfl
  | x :: l, 0, 0, v, h => absurd rfl h
  | x :: l, 0, j + 1, v, _ => rfl
  | x :: l, i + 1, 0, v, _ => rfl
  | x :: l, i + 1, j + 1, v, h => lget_lset_ne l v (by omega)
theorem length_lset : ∀ (l : List Value) (i : Nat) (v : Value), (lset l i v).length = l.length
  | [], _, _ => rfl
  | _ :: _, 0, _ => rfl
  | _ :: l, i + 1, v => by simp [lset, length_lset l i v]
theorem lset_self : ∀ (l : List Value) (i : Nat) (c : Bool), lget l i = .bool c → lset l i (.bool c) = l
  | [], _, _, _ => rfl
  | x :: l, 0, c, h => by simp only [lget] at h; subst h; rfl
  | x :: l, i + 1, c, h => by simp only [lset]; rw [lset_self l i c h]
structure Agr (md : List Nat) (t t' : List Value) : Prop where
  len : t'.length = t.length
  same : ∀ i, i ∉ md → lget t' i = lget t i
theorem Agr.refl (md : List Nat) (t : List Value) : Agr md t t := ⟨rfl, fun _ _ => rfl⟩
theorem Agr.trans {md : List Nat} {a b c : List Value} (h : Agr md a b) (k : Agr md b c) : Agr md a c :=
  ⟨k.len.trans h.len, fun i hi => (k.same i hi).trans (h.same i hi)⟩
theorem Agr.mono {md md' : List Nat} {a b : List Value} (h : Agr md a b) (hm : ∀ i, i ∈ md → i ∈ md') : Agr md' a b :=
  ⟨h.len, fun i hi => h.same i fun hc => hi (hm i hc)⟩
theorem Agr.put {md : List Nat} {t : List Value} {d : Option Tmp} (v : Value) (hd : ∀ i, d = some i → i ∈ md) : Agr md t (lput t d v) := by
  cases d with
  | none => exact .refl _ _
  | some i => exact ⟨length_lset _ _ _, fun j hj => lget_lset_ne _ _ fun e => hj (e ▸ hd i rfl)⟩
theorem yielded_spec {ops : List Oper} {a : Act} {j : Nat} : yielded ops.toArray a.tmps j = match (ops[j]?).bind (·.dst) with
    | some d => (match lget a.tmps.toList d with | .bool c => some c | _ => none)
    | none => none := by
  unfold yielded
  simp only [List.getElem?_toArray]
  cases hd : (ops[j]?).bind (·.dst) with
  | none => rfl
  | some d =>
    simp only [Option.bind_some, lget_eq]
    cases ht : a.tmps[d]? with
    | none => simp [ht, undef]
    | some v =>
      simp only [List.getD_eq_getElem?_getD, Array.getElem?_toList, ht, Option.getD_some]
      cases v <;> rfl
theorem guarded_spec {ops : List Oper} {o : Oper} {a : Act} {A B : List Value → Prop} (h : guarded ops o a.tmps.toList A B) :
    (Region.wanted o (yielded ops.toArray a.tmps) = true ∧ A a.tmps.toList) ∨ (Region.wanted o (yielded ops.toArray a.tmps) = false ∧ B a.tmps.toList) := by
  unfold guarded guardSlot at h
  unfold Region.wanted
  cases hg : o.guard with
  | none => rw [hg] at h; exact .inl ⟨rfl, h⟩
  | some jw =>
    obtain ⟨j, want⟩ := jw
    rw [hg] at h
    simp only [yielded_spec]
    simp only at h
    cases hd : (ops[j]?).bind (·.dst) with
    | none => rw [hd] at h; exact .inr ⟨by simp, h⟩
    | some d =>
      rw [hd] at h
      simp only at h ⊢
      cases hv : lget a.tmps.toList d with
      | bool c =>
        rw [hv] at h
        simp only at h ⊢
        cases c <;> cases want <;> simp only [cond_true, cond_false, lset_self _ _ _ hv] at h <;> simp [h]
      | _ => rw [hv] at h; exact .inr ⟨by simp, h⟩
def wpF (P : Program) (ops : List Oper) (Q : Exit → Act → World → Prop) (Cs : List (Nat × (World → Prop))) : Nat → Array Bool → Act → World → Prop
  | 0, listed, a, w => Region.ready .any ops.toArray listed = [] ∧ Q .normal a w
  | n + 1, listed, a, w => (Region.ready .any ops.toArray listed = [] → Q .normal a w) ∧
    ∀ i ∈ Region.ready .any ops.toArray listed, wpOp P ops.toArray Q i (fun a' w' => (∀ c ∈ Cs, waits ops ops.length c.1 i = false → c.2 w → c.2 w') ∧ wpF P ops Q Cs n (listed.setIfInBounds i true) a' w') a w
theorem wpF_any {ops : List Oper} {Q : Exit → Act → World → Prop} {Cs : List (Nat × (World → Prop))} : ∀ (n : Nat) (listed : Array Bool) (a : Act) (w : World), wpF P ops Q Cs n listed a w → wpAny P .any ops.toArray Q n listed a w
  | 0, _, _, _, h => h
  | n + 1, _, _, _, h => ⟨h.1, fun i hi => wpOp_mono (fun a' w' hh => wpF_any n _ a' w' hh.2) (h.2 i hi)⟩
def Closed (ops : List Oper) (listed : Array Bool) : Prop :=
  ∀ j oj, ops[j]? = some oj → listed.getD j false = true → ∀ e ∈ oj.after, Region.binds .any e = true → listed.getD e.on false = true
theorem Closed.set {ops : List Oper} {listed : Array Bool} (hc : Closed ops listed) {i : Nat} (hi : i ∈ Region.ready .any ops.toArray listed) : Closed ops (listed.setIfInBounds i true) := by
  intro j oj hj hl e he hb
  obtain ⟨_, oi, hoi, hall⟩ := mem_ready.1 hi
  by_cases hij : i = j
  · subst hij
    have : oj = oi := Option.some.inj (hj.symm.trans (by simpa using hoi))
    subst this
    exact getD_set_true (hall e he hb)
  · rw [getD_set_ne false hij] at hl
    exact getD_set_true (hc j oj hj hl e he hb)
theorem waits_listed {ops : List Oper} {listed : Array Bool} (hc : Closed ops listed) {i : Nat} : ∀ (n j : Nat) (oj : Oper), ops[j]? = some oj →
    (∀ e ∈ oj.after, Region.binds .any e = true → listed.getD e.on false = true) → waits ops n i j = true → listed.getD i false = true
  | 0, _, _, _, _, h => by simp [waits] at h
  | n + 1, j, oj, hj, hall, h => by
    simp only [waits, hj, List.any_eq_true, Bool.and_eq_true, Bool.or_eq_true, beq_iff_eq] at h
    obtain ⟨e, he, hb, h1⟩ := h
    have hl := hall e (by simpa using he) hb
    rcases h1 with h1 | h1
    · rw [← h1]; exact hl
    · cases hk : ops[e.on]? with
      | none =>
        cases n with
        | zero => simp [waits] at h1
        | succ n => simp [waits, hk] at h1
      | some ok => exact waits_listed hc n e.on ok hk (fun e' he' hb' => hc e.on ok hk hl e' he' hb') h1
def YieldC (P : Program) (ops : List Oper) (o : Oper) (v : Value) (C : World → Prop) (a : Act) : Prop :=
  (Region.wanted o (yielded ops.toArray a.tmps) = true ∧ ∀ w, C w → (execOp a.eval o).run P w = .ok (.value v) w) ∨ (Region.wanted o (yielded ops.toArray a.tmps) = false ∧ v = undef)
theorem YieldC.wpOp {ops : List Oper} {Q : Exit → Act → World → Prop} {i : Nat} {o : Oper} {v : Value} {C : World → Prop} {a : Act} (hi : ops[i]? = some o) (hy : YieldC P ops o v C a) {K : Act → World → Prop} {w : World} (hC : C w)
    (h : K (a.put o.dst v) w) : wpOp P ops.toArray Q i K a w := by
  unfold Go.wpOp
  simp only [List.getElem?_toArray, hi]
  rcases hy with ⟨hw, hv⟩ | ⟨hw, rfl⟩
  · simp only [hw, if_true, Oper.wp, hv w hC, Oper.upon]; exact .inl h
  · simp only [hw, Bool.false_eq_true, if_false]; exact h
theorem YieldC.of_same {ops : List Oper} {o : Oper} {v : Value} {C : World → Prop} {a a' : Act} (hy : YieldC P ops o v C a) (he : execOp a'.eval o = execOp a.eval o)
    (hw : Region.wanted o (yielded ops.toArray a'.tmps) = Region.wanted o (yielded ops.toArray a.tmps)) : YieldC P ops o v C a' := by
  unfold YieldC at *
  rw [he, hw]
  exact hy
theorem wpOp_putC {ops : List Oper} {Q : Exit → Act → World → Prop} {j : Nat} {oi oj : Oper} {v : Value} {C : World → Prop} (hj : ops[j]? = some oj) (hap : oi.apart ops.toArray oj = true)
    (hsi : ∀ cs b, oi.op ≠ .select cs b) (hsj : ∀ cs b, oj.op ≠ .select cs b) (hQ : ∀ c a w, ¬ Q (.panic c) a w) (hQo : ∀ a w, ¬ Q .outgrown a w) {K : Act → World → Prop} {a : Act} {w : World}
    (hy : YieldC P ops oi v C a) (h : wpOp P ops.toArray Q j K (a.put oi.dst v) w) :
    wpOp P ops.toArray Q j (fun a' w' => YieldC P ops oi v C a' ∧ K (a'.put oi.dst v) w') a w := by
  obtain ⟨h1, h2, h3⟩ := Oper.apart_spec hap
  have keep : ∀ (a : Act), YieldC P ops oi v C a → ∀ u, YieldC P ops oi v C (a.put oj.dst u) := fun a hy u =>
    hy.of_same (execOp_put oi hsi a oj.dst u h3) (wanted_put oi a oj.dst u h3)
  have keepD : ∀ d, YieldC P ops oi v C { a with defers := d :: a.defers } := fun d => hy.of_same rfl rfl
  unfold Go.wpOp at *
  simp only [List.getElem?_toArray, hj] at *
  rw [wanted_put oj a oi.dst v h1] at h
  split
  · rename_i hw
    simp only [hw, if_true] at h
    rcases h with h | ⟨_, a', w', hlets⟩
    case inr => exact absurd hlets (hQo _ _)
    refine .inl ?_
    unfold Oper.wp at *
    rw [execOp_put oj hsj a oi.dst v h1] at h
    generalize (execOp a.eval oj).run P w = r at *
    cases r with
    | ok n w' =>
      cases n <;> simp only [Oper.upon] at h ⊢
      case value u => exact ⟨keep a hy u, by rw [← Act.put_comm a v u h2]; exact h⟩
      case skip => exact ⟨keep a hy _, by rw [← Act.put_comm a v undef h2]; exact h⟩
      case defer d =>
        refine ⟨keep _ (keepD d) _, ?_⟩
        rw [← Act.put_comm _ v undef h2, ← Act.put_defers]
        exact h
      case enter f args =>
        refine Calls.mono h fun e w'' he => ?_
        cases e with
        | returned u => exact ⟨keep a hy u, by rw [← Act.put_comm a v u h2]; exact he⟩
        | panicked c => exact absurd he (hQ _ _ _)
        | outgrown => obtain ⟨a', w', hlets⟩ := he; exact absurd hlets (hQo _ _)
      case row row args => exact Rows.mono h fun u w'' he => ⟨keep a hy u, by rw [← Act.put_comm a v u h2]; exact he⟩
    | halt x w' =>
      cases x <;> simp only [Oper.upon] at h ⊢
      case panic u => exact absurd h (hQ _ _ _)
  · rename_i hw
    simp only [hw] at h
    exact ⟨keep a hy _, by rw [← Act.put_comm a v undef h2]; exact h⟩
end
end Go.Proofs.YtalglagdgabafaaGreat

/- The engine, part f: code and functions. -/
namespace Go.Proofs.YtalglagdgabafaaGreat
open Go
section
variable {P : Program}
structure Lst (ops : List Oper) (done : List Nat) (listed : Array Bool) : Prop where
  size : listed.size = ops.length
  eq : ∀ k, k < ops.length → listed.getD k true = done.contains k
  bd : ∀ k, done.contains k = true → k < ops.length
theorem Lst.getF {ops : List Oper} {done : List Nat} {listed : Array Bool} (h : Lst ops done listed) {k : Nat} (hk : k < ops.length) : listed.getD k false = done.contains k := by
  have := h.eq k hk
  have hs : k < listed.size := by rw [h.size]; exact hk
  simp [hs] at this ⊢
  exact this
theorem Lst.set {ops : List Oper} {done : List Nat} {listed : Array Bool} (h : Lst ops done listed) (i : Nat) (hi : i < ops.length) : Lst ops (i :: done) (listed.setIfInBounds i true) := by
  refine ⟨by simp [h.size], fun k hk => ?_, fun k hk => ?_⟩
  rotate_left
  · rw [List.contains_cons, Bool.or_eq_true, beq_iff_eq] at hk
    rcases hk with rfl | hk
    · exact hi
    · exact h.bd k hk
  have hs : i < listed.size := by rw [h.size]; exact hi
  by_cases hik : i = k
  · subst hik; simp [hs]
  · rw [getD_set_ne true hik, h.eq k hk]
    have : (k == i) = false := by simpa using Ne.symm hik
    simp only [List.contains_cons, this, Bool.false_or]
theorem mem_readyL {ops : List Oper} {done : List Nat} {listed : Array Bool} (h : Lst ops done listed) {i : Nat} :
    i ∈ Region.ready .any ops.toArray listed ↔ readyL ops done i = true := by
  rw [mem_ready]
  unfold readyL
  simp only [List.getElem?_toArray]
  cases ho : ops[i]? with
  | none => simp
  | some o =>
    have hlt : i < ops.length := (List.getElem?_eq_some_iff.1 ho).1
    rw [h.eq i hlt]
    simp only [Option.some.injEq, exists_eq_left', Bool.and_eq_true, Bool.not_eq_true', List.all_eq_true, Bool.or_eq_true]
    refine and_congr_right fun _ => ⟨fun hh e he => ?_, fun hh e he hb => ?_⟩
    · cases hb : Region.binds .any e with
      | false => exact .inl rfl
      | true =>
        refine .inr ?_
        have h1 := hh e (by simpa using he) hb
        rcases Nat.lt_or_ge e.on ops.length with h2 | h2
        · rw [← h.getF h2]; exact h1
        · simp [show listed.size ≤ e.on by rw [h.size]; exact h2] at h1
    · have h1 := (hh e (by simpa using he)).resolve_left (by simp [hb])
      rcases Nat.lt_or_ge e.on ops.length with h2 | h2
      · rw [h.getF h2]; exact h1
      · exact absurd (h.bd _ h1) (by omega)
theorem find_range {n : Nat} {p : Nat → Bool} {i : Nat} (h : (List.range n).find? p = some i) : i < n ∧ p i = true :=
  ⟨List.mem_range.1 (List.mem_of_find?_eq_some h), List.find?_some h⟩
theorem nextQ_spec {ops : List Oper} {done : List Nat} {i : Nat} (h : nextQ ops done = some i) : readyL ops done i = true ∧ ∃ o, ops[i]? = some o ∧ (pureOp o || readOp o) = true := by
  have := (find_range h).2
  simp only [Bool.and_eq_true] at this
  refine ⟨this.1, ?_⟩
  cases ho : ops[i]? with
  | none => rw [ho] at this; simp at this
  | some o => rw [ho] at this; exact ⟨o, rfl, this.2⟩
theorem conjL_spec : ∀ {l : List Nat} {f : Nat → Prop}, conjL l f → l ≠ [] ∧ ∀ i ∈ l, f i
  | [], _, h => h.elim
  | [i], f, h => ⟨by simp, fun j hj => by simp only [List.mem_singleton] at hj; subst hj; exact h⟩
  | i :: j :: l, f, h => ⟨by simp, fun k hk => by
      simp only [List.mem_cons] at hk
      rcases hk with rfl | hk
      · exact h.1
      · exact (conjL_spec (l := j :: l) h.2).2 k (by simpa using hk)⟩
theorem lset_get : ∀ (l : List Value) (i : Nat), lset l i (lget l i) = l
  | [], _ => rfl
  | _ :: _, 0 => rfl
  | x :: l, i + 1 => by simp only [lset, lget]; rw [lset_get l i]
theorem rep_get {n k : Nat} (d : Bool) (hk : k < n) : (Array.replicate n false).getD k d = false := by
  rw [Array.getD_eq_getD_getElem?, Array.getElem?_replicate, if_pos hk]; rfl
theorem rep_getF (n k : Nat) : (Array.replicate n false).getD k false = false := by
  rw [Array.getD_eq_getD_getElem?, Array.getElem?_replicate]; split <;> rfl
def rvS (tmps : Array Value) : ResultVar → Sem Value
  | .tmp t => pure (tmps.getD t undef)
  | .cell a t => do loadVar t (← asAddr (tmps.getD a undef))
theorem resS_spec {t : List Value} {h : Heap} {tmps : Array Value} (ht : tmps.toList = t) : ∀ {l : List ResultVar} {K : List Value → Prop}, resS P l t h K →
    ∃ vs, K vs ∧ ∀ w : World, w.heap = h → (l.mapM (rvS tmps)).run P w = .ok vs w
  | [], K, hh => ⟨[], hh, fun w _ => by simp⟩
  | .tmp i :: l, K, hh => by
    simp only [resS] at hh
    obtain ⟨vs, hK, hr⟩ := resS_spec ht hh
    refine ⟨_, hK, fun w hw => ?_⟩
    have he : tmps.getD i undef = lget t i := by rw [← ht, lget_eq]; simp [Array.getD_eq_getD_getElem?]
    have h1 : (rvS tmps (.tmp i)).run P w = .ok (lget t i) w := by rw [← he]; rfl
    simp only [List.mapM_cons, Sem.run_bind, h1, hr w hw, Result.andThen_ok]
    rfl
  | .cell i T :: l, K, hh => by
    simp only [resS] at hh
    split at hh
    · rename_i a ha
      obtain ⟨b, o, v, rfl, h1, h2⟩ := loadK_spec hh
      obtain ⟨vs, hK, hr⟩ := resS_spec ht h1
      refine ⟨_, hK, fun w hw => ?_⟩
      have he : tmps.getD i undef = .pointer (some ⟨b, o, none⟩) := by rw [← ha, ← ht, lget_eq]; simp [Array.getD_eq_getD_getElem?]
      have h3 : (rvS tmps (.cell i T)).run P w = .ok v w := by
        show Sem.run P (do loadVar T (← asAddr (tmps.getD i undef))) w = _
        rw [he]
        simp only [asAddr, Sem.run_bind, Sem.run_pure, Result.andThen_ok, h2 w hw]
      simp only [List.mapM_cons, Sem.run_bind, h3, hr w hw, Result.andThen_ok]
      rfl
    · exact hh.elim
theorem one_spec (vs : List Value) : (if h : vs.toArray.size = 1 then vs.toArray[0] else .tuple vs.toArray) = one vs := by
  match vs with
  | [] => rfl
  | [v] => rfl
  | v :: u :: vs => rw [dif_neg (by simp)]; rfl
theorem results_run {fn : Func} {t : List Value} {h : Heap} {tmps : Array Value} (ht : tmps.toList = t) {R : Value → Heap → Prop} (hh : resS P fn.results.toList t h fun vs => R (one vs) h) :
    ∃ v, R v h ∧ ∀ w : World, w.heap = h → (results fn tmps).run P w = .ok v w := by
  obtain ⟨vs, hK, hr⟩ := resS_spec ht hh
  refine ⟨_, hK, fun w hw => ?_⟩
  have hf : results fn tmps = (fn.results.mapM (rvS tmps) >>= fun vs => pure (if h : vs.size = 1 then vs[0] else .tuple vs)) := by
    unfold results
    refine congrArg (· >>= _) (congrArg (Array.mapM · fn.results) (funext fun x => ?_))
    cases x <;> rfl
  have : (fn.results.mapM (rvS tmps)).run P w = .ok vs.toArray w := by
    rw [Array.mapM_eq_mapM_toList, Sem.run_map, hr w hw]; rfl
  rw [hf, Sem.run_bind]
  rw [this]
  show Sem.run P (pure (if h : vs.toArray.size = 1 then vs.toArray[0] else .tuple vs.toArray)) w = _
  rw [one_spec]
  rfl
end
end Go.Proofs.YtalglagdgabafaaGreat

/- The engine, part g: what the named predicates come to on known memory: slices of records, own rows, maps. -/
namespace Go.Proofs.YtalglagdgabafaaGreat
open Go
def i64 (x : Int) : Prop := -9223372036854775808 ≤ x ∧ x ≤ 9223372036854775807
theorem w64 {x : Int} (h1 : -9223372036854775808 ≤ x) (h2 : x ≤ 9223372036854775807) : IntKind.wrap .i64 x = x := by
  have hb : (2 ^ IntKind.i64.bits : Int) = 18446744073709551616 := by decide
  have hb1 : (2 ^ (IntKind.i64.bits - 1) : Int) = 9223372036854775808 := by decide
  simp only [IntKind.wrap, IntKind.signed, hb, hb1, Bool.true_and, decide_eq_true_eq, ge_iff_le]
  split <;> omega
theorem cB {b : Bool} {A B : Prop} (h1 : b = true → A) (h2 : b = false → B) : cond b A B := by cases b; exact h2 rfl; exact h1 rfl
structure KB (F : List Nat) (h h' : Heap) : Prop where
  size : h.size ≤ h'.size
  blk : ∀ b, b < h.size → b ∉ F → h'[b]? = h[b]?
abbrev Keep (h h' : Heap) : Prop := KB [] h h'
theorem KB.refl (F : List Nat) (h : Heap) : KB F h h := ⟨Nat.le_refl _, fun _ _ _ => rfl⟩
theorem KB.trans {F : List Nat} {a b c : Heap} (h : KB F a b) (k : KB F b c) : KB F a c :=
  ⟨Nat.le_trans h.size k.size, fun x hx hf => (k.blk x (Nat.lt_of_lt_of_le hx h.size) hf).trans (h.blk x hx hf)⟩
theorem KB.mono {F G : List Nat} {a b : Heap} (h : KB F a b) (hs : ∀ x, x ∈ F → x < a.size → x ∈ G) : KB G a b :=
  ⟨h.size, fun x hx hf => h.blk x hx fun hm => hf (hs x hm hx)⟩
theorem KB.push (F : List Nat) (h : Heap) (o : Obj) : KB F h (h.push o) :=
  ⟨by simp, fun b hb _ => by rw [Array.getElem?_push, if_neg (by omega)]⟩
theorem push_get (h : Heap) (o : Obj) : (h.push o)[h.size]? = some o := by simp
theorem hset_size (h : Heap) (a : Addr) (v : Value) : (hset h a v).size = h.size := by simp [hset]
theorem hset_get_ne (h : Heap) (a : Addr) (v : Value) {b : Nat} (hb : b ≠ a.block) : (hset h a v)[b]? = h[b]? := by
  simp only [hset, Array.getElem?_modify]
  rw [if_neg (by omega)]
theorem hset_get (h : Heap) {b o : Nat} (v : Value) {c : Array Value} {e : TypeId} {f : Nat × Nat} (hb : h[b]? = some (.cells c e f)) : (hset h ⟨b, o, none⟩ v)[b]? = some (.cells (c.setIfInBounds o v) e f) := by
  simp only [hset, Array.getElem?_modify]
  simp [hb]
theorem KB.hset {F : List Nat} {h : Heap} {a : Addr} {v : Value} (hb : a.block ∈ F) : KB F h (hset h a v) :=
  ⟨by rw [hset_size]; exact Nat.le_refl _, fun b _ hf => hset_get_ne h a v fun e => hf (e ▸ hb)⟩
theorem lt_of_get {h : Heap} {b : Nat} {o : Obj} (hb : h[b]? = some o) : b < h.size := (Array.getElem?_eq_some_iff.1 hb).1
theorem KB.get {F : List Nat} {h h' : Heap} (k : KB F h h') {b : Nat} {o : Obj} (hb : h[b]? = some o) (hf : b ∉ F) : h'[b]? = some o := by
  rw [k.blk b (lt_of_get hb) hf]; exact hb
theorem hcell_of {h : Heap} {b : Nat} {c : Array Value} {e : TypeId} {f : Nat × Nat} (hb : h[b]? = some (.cells c e f)) (o : Nat) : hcell h ⟨b, o, none⟩ = c[o]? := by
  unfold hcell; simp [hb]
theorem hfroz_of {h : Heap} {b : Nat} {c : Array Value} {e : TypeId} (hb : h[b]? = some (.cells c e (0, 0))) (o : Nat) : hfroz h ⟨b, o, none⟩ = false := by
  unfold hfroz; simp [hb]
theorem newB_intro {h : Heap} {o : Obj} {K : Nat → Heap → Prop} (hK : ∀ h1 : Heap, h1[h.size]? = some o → KB [] h h1 → h1.size = h.size + 1 → K h.size h1) : newB h o K :=
  hK _ (push_get h o) (.push _ h o) (by simp)
theorem stK_blk {h : Heap} {b o : Nat} {v : Value} {K : Heap → Prop} {c : Array Value} {e : TypeId} (hb : h[b]? = some (.cells c e (0, 0))) (ho : o < c.size) (hv : single v = true)
    (hK : ∀ h' : Heap, h'[b]? = some (.cells (c.setIfInBounds o v) e (0, 0)) → KB [b] h h' → h'.size = h.size → K h') : stK h ⟨b, o, none⟩ v K :=
  ⟨hv, ⟨c[o], by rw [hcell_of hb]; simp [ho]⟩, hfroz_of hb o, hK _ (hset_get h v hb) (.hset (by simp)) (hset_size _ _ _)⟩
theorem storeS_blk {b : Nat} {e : TypeId} : ∀ {vs : List Value} {o i : Nat} {h : Heap} {K : Heap → Prop} {l : List Value}, h[b]? = some (.cells l.toArray e (0, 0)) → o + i + vs.length ≤ l.length → (∀ v ∈ vs, single v = true) →
    (∀ h' : Heap, h'[b]? = some (.cells (splice l (o + i) vs).toArray e (0, 0)) → KB [b] h h' → h'.size = h.size → K h') → storeS b o vs i h K
  | [], o, i, h, K, l, hb, _, _, hK => hK h (by rw [splice_nil]; exact hb) (.refl _ _) rfl
  | v :: vs, o, i, h, K, l, hb, hl, hv, hK => by
    simp only [List.length_cons] at hl
    show stK h ⟨b, addO o i, none⟩ v _
    rw [addO_eq]
    refine stK_blk hb (by simp; omega) (hv v (by simp)) fun h1 h1b k1 s1 => ?_
    refine storeS_blk (e := e) (l := l.set (o + i) v) (by rw [h1b]; simp) (by simp; omega) (fun u hu => hv u (by simp [hu])) fun h2 h2b k2 s2 => ?_
    refine hK h2 ?_ (k1.trans k2) (s2.trans s1)
    rw [h2b, splice_cons _ _ _ _ (by omega)]
    rfl
def SlOf {α : Type} (enc : α → List Value) (sz : Nat) (h : Heap) (a : Option Addr) (n c : Nat) (xs : List α) : Prop :=
  xs.length = n ∧ n ≤ c ∧ ∀ i x, xs[i]? = some x → ∃ b o, a = some ⟨b, o, none⟩ ∧ ∀ j v, (enc x)[j]? = some v → hcell h ⟨b, o + i * sz + j, none⟩ = some v
theorem SlOf.el {α : Type} {enc : α → List Value} {sz : Nat} {h : Heap} {a : Option Addr} {n c : Nat} {xs : List α} (s : SlOf enc sz h a n c xs) {z : Int} {i : Nat} (hz : z = i) (hi : i < xs.length) {K : Nat → Nat → Prop}
    (hK : ∀ b o, (∀ j v, (enc xs[i])[j]? = some v → hcell h ⟨b, o + z.toNat * sz + j, none⟩ = some v) → K b o) : onPtr a K := by
  obtain ⟨b, o, rfl, hc⟩ := s.2.2 i xs[i] (by simp [hi])
  subst hz
  exact hK b o (by simpa using hc)
def OwnS (B : Nat) (e : TypeId) (sz : Nat) (h : Heap) (a : Option Addr) (n c : Nat) (cs : List Value) : Prop :=
  (a = none ∧ n = 0 ∧ c = 0 ∧ cs = []) ∨ ∃ (b : Nat) (l : Array Value), a = some ⟨b, 0, none⟩ ∧ B ≤ b ∧ h[b]? = some (.cells l e (0, 0)) ∧ l.size = c * sz ∧ n ≤ c ∧ cs.length = n * sz ∧ ∀ (j : Nat) (v : Value), cs[j]? = some v → l[j]? = some v
theorem OwnS.nil (B : Nat) (e : TypeId) (sz : Nat) (h : Heap) : OwnS B e sz h none 0 0 [] := .inl ⟨rfl, rfl, rfl, rfl⟩
section
variable {P : Program}
theorem SWp_bind {α β : Type} {s : Sem α} {f : α → Sem β} {h : Heap} {K : β → Heap → Prop} : SWp P s h (fun a h' => SWp P (f a) h' K) → SWp P (s >>= f) h K := SWp.bind
theorem SWp_underlying {T : TypeId} {d : TypeDesc} (hd : P.underlying T = some d) {h : Heap} {K : TypeDesc → Heap → Prop} (hK : K d h) : SWp P (underlying T) h K := by
  show SWp P (match P.underlying T with | some d => pure d | none => stuck "no such type") h K
  rw [hd]; exact hK
theorem SWp_typeInfo {T : TypeId} {i : TypeInfo} (hi : P.info? T = some i) {h : Heap} {K : TypeInfo → Heap → Prop} (hK : K i h) : SWp P (typeInfo T) h K := by
  show SWp P (match P.info? T with | some i => pure i | none => stuck "no such type") h K
  rw [hi]; exact hK
theorem SWp_sizeOf {T : TypeId} {i : TypeInfo} (hi : P.info? T = some i) {h : Heap} {K : Nat → Heap → Prop} (hK : K i.size h) : SWp P (sizeOf T) h K :=
  SWp_bind (SWp_typeInfo hi hK)
theorem SWp_zero {T : TypeId} {i : TypeInfo} {z : Value} (hi : P.info? T = some i) (hz : i.zero = some z) {h : Heap} {K : Value → Heap → Prop} (hK : K z h) : SWp P (zeroValue T) h K := by
  refine SWp_bind (SWp_typeInfo hi ?_)
  rw [hz]; exact hK
theorem SWp_loadCells {b o : Nat} {h : Heap} : ∀ {vs : List Value} {i : Nat} {acc : Array Value} {K : Array Value → Heap → Prop}, (∀ j v, vs[j]? = some v → hcell h ⟨b, o + (i + j), none⟩ = some v) → K (acc ++ vs.toArray) h →
    SWp P (loadCellsFrom ⟨b, o, none⟩ i vs.length acc) h K
  | [], i, acc, K, _, hK => by show K acc h; simpa using hK
  | v :: vs, i, acc, K, hc, hK => by
    show SWp P (load ((⟨b, o, none⟩ : Addr).add i) >>= fun v => loadCellsFrom ⟨b, o, none⟩ (i + 1) vs.length (acc.push v)) h K
    refine SWp_bind ⟨v, ?_, ?_⟩
    · rw [add_plain]; simpa using hc 0 v rfl
    · refine SWp_loadCells (fun j u hu => ?_) (by simpa using hK)
      have := hc (j + 1) u (by simpa using hu)
      rw [show i + 1 + j = i + (j + 1) by omega]; exact this
theorem SWp_storeCells_blk {b : Nat} {e : TypeId} {vs l : List Value} {o : Nat} {h : Heap} {K : Unit → Heap → Prop} (hb : h[b]? = some (.cells l.toArray e (0, 0))) (hl : o + vs.length ≤ l.length) (hv : ∀ v ∈ vs, single v = true)
    (hK : ∀ h' : Heap, h'[b]? = some (.cells (splice l o vs).toArray e (0, 0)) → KB [b] h h' → h'.size = h.size → K () h') : SWp P (storeCells ⟨b, o, none⟩ vs) h K :=
  storeCells_spec (K := K ()) (storeS_blk (i := 0) hb (by omega) hv (by simpa using hK))
theorem SWp_askRoom {n : Nat} {h : Heap} {K : Unit → Heap → Prop} (hK : K () h) : SWp P (askRoom n) h K := by
  unfold askRoom
  split
  · exact hK
  · exact hK
def ownB (a : Option Addr) : List Nat :=
  match a with
  | some x => [x.block]
  | none => []
theorem splice_get : ∀ (l : List Value) (o : Nat) (vs : List Value) (j : Nat), o + vs.length ≤ l.length → (splice l o vs)[j]? = if j < o then l[j]? else if j < o + vs.length then vs[j - o]? else l[j]?
  | l, o, [], j, _ => by
    rw [splice_nil]
    by_cases h1 : j < o
    · rw [if_pos h1]
    · rw [if_neg h1, if_neg (by simp only [List.length_nil]; omega)]
  | [], o, v :: vs, j, h => by simp at h
  | x :: l, 0, v :: vs, 0, _ => by simp [splice]
  | x :: l, 0, v :: vs, j + 1, h => by
    simp only [splice, List.getElem?_cons_succ, List.length_cons] at *
    rw [splice_get l 0 vs j (by omega)]
    simp only [Nat.not_lt_zero, if_false, Nat.zero_add, Nat.sub_zero]
    by_cases hj : j < vs.length
    · rw [if_pos hj, if_pos (by omega)]; simp
    · rw [if_neg hj, if_neg (by omega)]
  | x :: l, o + 1, v :: vs, 0, _ => by simp [splice]
  | x :: l, o + 1, v :: vs, j + 1, h => by
    have hh : o + (v :: vs).length ≤ l.length := by simp only [List.length_cons] at *; omega
    simp only [splice, List.getElem?_cons_succ]
    rw [splice_get l o (v :: vs) j hh]
    by_cases h1 : j < o
    · rw [if_pos h1, if_pos (show j + 1 < o + 1 by omega)]
    · rw [if_neg h1, if_neg (show ¬ j + 1 < o + 1 by omega)]
      by_cases h2 : j < o + (v :: vs).length
      · rw [if_pos h2, if_pos (by omega), show j + 1 - (o + 1) = j - o by omega]
      · rw [if_neg h2, if_neg (by omega)]
theorem growBy_le {n : Nat} : ∀ (r c : Nat), Builtin.growBy n r c ≤ c ∨ Builtin.growBy n r c ≤ n + (n + 768) / 4
  | 0, c => .inl (Nat.le_refl _)
  | r + 1, c => by
    unfold Builtin.growBy
    split
    · exact .inl (Nat.le_refl _)
    · rename_i h
      rcases growBy_le (n := n) r (c + (c + 768) / 4) with h1 | h1
      · exact .inr (by omega)
      · exact .inr h1
theorem nextslicecap_le {n c : Nat} (h : c < n) : Builtin.nextslicecap n c ≤ 2 * n + 512 := by
  unfold Builtin.nextslicecap
  split
  · omega
  · split
    · omega
    · rcases growBy_le (n := n) 4 c with h1 | h1 <;> omega
theorem app_own {B : Nat} {T E : TypeId} {i : TypeInfo} {z : Value} {h : Heap} {a : Option Addr} {n c m cx b2 o2 : Nat} {cs new : List Value} {K : Value → Heap → Prop}
    (hu : P.underlying T = some (.slice E)) (hi : P.info? E = some i) (hz : i.zero = some z) (hzs : z.cells.size = i.size) (hb : i.bytes ≠ 0) (hown : OwnS B E i.size h a n c cs) (hB : B ≤ h.size)
    (hnew : ∀ j v, new[j]? = some v → hcell h ⟨b2, o2 + j, none⟩ = some v) (hlen : new.length = m * i.size) (hs : ∀ v ∈ new, single v = true) (hbd : (2 * (n + m) + 512) * i.bytes ≤ 281474976710656)
    (hK : ∀ (a' : Option Addr) (c' : Nat) (h' : Heap), OwnS B E i.size h' a' (n + m) c' (cs ++ new) → KB (ownB a) h h' → (∀ b o, a' = some ⟨b, o, none⟩ → b ∈ ownB a ∨ h.size ≤ b) → K (.slice a' (n + m) c') h') :
    appK P #[T, T] T (.slice a n c) (.slice (some ⟨b2, o2, none⟩) m cx) h K := by
  unfold appK
  have hfc : ∀ {K' : Array Value → Heap → Prop}, K' new.toArray h → SWp P (Builtin.firstCells i.size m (.slice (some ⟨b2, o2, none⟩) m cx)) h K' := by
    intro K' hK'
    show SWp P (loadCells ⟨b2, o2, none⟩ (m * i.size)) h K'
    rw [← hlen]
    exact SWp_loadCells (fun j v hv => by simpa using hnew j v hv) (by simpa using hK')
  show SWp P (underlying T >>= _) h K
  refine SWp_bind (SWp_underlying hu ?_)
  refine SWp_bind (SWp_sizeOf hi ?_)
  refine SWp_bind (SWp_bind (SWp_underlying hu ?_))
  refine SWp_bind ?_
  show SWp P (Builtin.lenOf (.slice (some ⟨b2, o2, none⟩) m cx) >>= _) h K
  refine SWp_bind ?_
  show SWp P (if n + m ≤ c then _ else _) h K
  by_cases hcap : n + m ≤ c
  · rw [if_pos hcap]
    refine SWp_bind (hfc ?_)
    rcases hown with ⟨rfl, rfl, rfl, rfl⟩ | ⟨b, l, rfl, h1, h2, h3, h4, h5, h6⟩
    · have hm : m = 0 := by omega
      subst hm
      have hn0 : new = [] := List.eq_nil_of_length_eq_zero (by simpa using hlen)
      subst hn0
      exact hK none 0 h (.nil _ _ _ _) (.refl _ _) fun b o hbo => by cases hbo
    · show SWp P (storeCells ((⟨b, 0, none⟩ : Addr).add (n * i.size)) new.toArray.toList >>= _) h K
      rw [add_plain, Nat.zero_add]
      have hsz : n * i.size + new.length ≤ l.toList.length := by
        rw [hlen, ← Nat.add_mul, Array.length_toList, h3]; exact Nat.mul_le_mul_right _ hcap
      refine SWp_bind (SWp_storeCells_blk (l := l.toList) (by simpa using h2) (by simpa using hsz) hs fun h' h1b k1 s1 => ?_)
      refine hK (some ⟨b, 0, none⟩) c h' (.inr ⟨b, _, rfl, h1, h1b, ?_, hcap, ?_, ?_⟩) k1 fun b' o' hbo => .inl (by cases hbo; simp [ownB])
      · simp [splice_length, h3]
      · simp [h5, hlen, Nat.add_mul]
      · intro j v hv
        simp only [List.getElem?_toArray]
        rw [splice_get _ _ _ _ hsz]
        by_cases hj : j < n * i.size
        · rw [if_pos hj]
          rw [List.getElem?_append_left (by omega)] at hv
          simpa using h6 j v hv
        · rw [if_neg hj]
          rw [List.getElem?_append_right (by omega), h5] at hv
          rw [if_pos (by have := (List.getElem?_eq_some_iff.1 hv).1; omega)]
          exact hv
  · rw [if_neg hcap]
    refine SWp_bind (SWp_typeInfo hi ?_)
    rw [if_neg (by rintro ⟨-, h1 | h1⟩; exact absurd h1 (by simp); exact hb h1)]
    refine SWp_bind ?_
    refine SWp_bind (SWp_typeInfo hi ?_)
    have hcap2 : ¬ Builtin.nextslicecap (n + m) c * i.bytes > 2 ^ 48 := by
      have h1 := nextslicecap_le (n := n + m) (c := c) (by omega)
      have h2 := Nat.mul_le_mul_right i.bytes h1
      omega
    rw [if_neg hcap2]
    refine SWp_bind ?_
    refine ⟨fun hf => (by cases hf), fun _ t => ?_⟩
    have hge : n + m ≤ (Question.appendCap (n + m) c E).cut t := by simp [Question.cut]
    generalize (Question.appendCap (n + m) c E).cut t = c' at hge ⊢
    refine SWp_bind (SWp_typeInfo hi ?_)
    refine SWp_bind (SWp_askRoom ?_)
    have hold : ∀ {K' : Array Value → Heap → Prop}, K' cs.toArray h → SWp P (Builtin.firstCells i.size n (.slice a n c)) h K' := by
      intro K' hK'
      rcases hown with ⟨rfl, rfl, rfl, rfl⟩ | ⟨b, l, rfl, h1, h2, h3, h4, h5, h6⟩
      · exact hK'
      · show SWp P (loadCells ⟨b, 0, none⟩ (n * i.size)) h K'
        rw [← h5]
        exact SWp_loadCells (fun j v hv => by rw [hcell_of h2, Nat.zero_add, Nat.zero_add]; exact h6 j v hv) (by simpa using hK')
    refine SWp_bind (hold ?_)
    refine SWp_bind ?_
    show SWp P (Builtin.firstCells i.size m (.slice (some ⟨b2, o2, none⟩) m cx)) h _
    refine hfc ?_
    refine SWp_bind (SWp_zero hi hz ?_)
    have hcn : cs.length = n * i.size := by
      rcases hown with ⟨rfl, rfl, rfl, rfl⟩ | ⟨b, l, rfl, h1, h2, h3, h4, h5, h6⟩
      · simp
      · exact h5
    refine hK (some ⟨h.size, 0, none⟩) c' (h.push (.cells (cs.toArray ++ new.toArray ++ Builtin.zeroCells z.cells (c' - (n + m))) E)) (.inr ⟨h.size, _, rfl, hB, push_get _ _, ?_, hge, ?_, ?_⟩) (.push _ _ _) fun b o hbo => .inr (by cases hbo; exact Nat.le_refl _)
    · simp only [Array.size_append, List.size_toArray, Builtin.zeroCells, Array.size_map, Array.size_range, hcn, hlen, hzs]
      rw [← Nat.add_mul, ← Nat.add_mul, show n + m + (c' - (n + m)) = c' by omega]
    · simp [hcn, hlen, Nat.add_mul]
    · intro j v hv
      have hj := (List.getElem?_eq_some_iff.1 hv).1
      rw [Array.getElem?_append_left (by simpa using hj)]
      simpa using hv
end
end Go.Proofs.YtalglagdgabafaaGreat

/- The logic, part a: blocks that one owns, in chunks; frozen blocks; data in frozen blocks. -/
set_option linter.unusedVariables false
namespace Go.Proofs.YtalglagdgabafaaGreat
open Go
abbrev Chunk := List (Nat × Obj)
abbrev Fz := Nat → Option Obj
def Le (D D' : Fz) : Prop := ∀ b o, D b = some o → D' b = some o
theorem Le.refl (D : Fz) : Le D D := fun _ _ h => h
theorem Le.trans {A B C : Fz} (h : Le A B) (k : Le B C) : Le A C := fun b o x => k b o (h b o x)
def ids (C : List Chunk) : List Nat := C.flatten.map (·.1)
structure St (D : Fz) (C : List Chunk) (h : Heap) : Prop where
  nd : (ids C).Nodup
  own : ∀ p ∈ C.flatten, h[p.1]? = some p.2
  fz : ∀ b o, D b = some o → h[b]? = some o ∧ b ∉ ids C
variable {D D' : Fz} {C : List Chunk} {h h' : Heap}
theorem St.perm {C' : List Chunk} (S : St D C h) (p : C.flatten.Perm C'.flatten) : St D C' h where
  nd := (p.map _).nodup_iff.1 S.nd
  own q hq := S.own q (p.mem_iff.2 hq)
  fz b o hb := ⟨(S.fz b o hb).1, fun hm => (S.fz b o hb).2 ((p.map _).mem_iff.2 hm)⟩
theorem perm_pick {α : Type} : ∀ {C : List (List α)} {i : Nat} {c : List α}, C[i]? = some c → C.flatten.Perm (c :: C.eraseIdx i).flatten
  | [], i, c, h => by simp at h
  | x :: C, 0, c, h => by simp at h; subst h; exact .refl _
  | x :: C, i + 1, c, h => by
    have := perm_pick (C := C) (i := i) (c := c) (by simpa using h)
    simp only [List.flatten_cons, List.eraseIdx_cons_succ] at this ⊢
    refine (this.append_left x).trans ?_
    rw [← List.append_assoc, ← List.append_assoc]
    exact List.perm_append_comm.append_right _
theorem St.pick (S : St D C h) (i : Nat) {c : Chunk} (hi : C[i]? = some c) : St D (c :: C.eraseIdx i) h := S.perm (perm_pick hi)
theorem St.drop {c : Chunk} (S : St D (c :: C) h) : St D C h where
  nd := by have := S.nd; simp only [ids, List.flatten_cons, List.map_append, List.nodup_append] at this; exact this.2.1
  own p hp := S.own p (by simp only [List.flatten_cons, List.mem_append]; exact .inr hp)
  fz b o hb := ⟨(S.fz b o hb).1, fun hm => (S.fz b o hb).2 (by simp only [ids, List.flatten_cons, List.map_append, List.mem_append]; exact .inr hm)⟩
theorem St.get {c : Chunk} {b : Nat} {o : Obj} (S : St D (c :: C) h) (hm : (b, o) ∈ c) : h[b]? = some o := S.own (b, o) (by simp [hm])
theorem St.upd {c c' : Chunk} (S : St D (c :: C) h) (k : KB (c.map (·.1)) h h') (hc : ∀ p ∈ c', h'[p.1]? = some p.2) (hn : (c'.map (·.1)).Nodup)
    (hi : ∀ p ∈ c', p.1 ∈ c.map (·.1) ∨ h.size ≤ p.1) : St D (c' :: C) h' := by
  have hnd := S.nd
  simp only [ids, List.flatten_cons, List.map_append, List.nodup_append] at hnd
  obtain ⟨h1, h2, h3⟩ := hnd
  have hlt : ∀ p ∈ C.flatten, p.1 < h.size := fun p hp => lt_of_get (S.own p (by simp only [List.flatten_cons, List.mem_append]; exact .inr hp))
  have hout : ∀ p ∈ C.flatten, p.1 ∉ c.map (·.1) := fun p hp hm => h3 _ hm _ (List.mem_map.2 ⟨p, hp, rfl⟩) rfl
  refine ⟨?_, ?_, ?_⟩
  · simp only [ids, List.flatten_cons, List.map_append, List.nodup_append]
    refine ⟨hn, h2, fun x hx y hy e => ?_⟩
    subst e
    obtain ⟨p, hp, rfl⟩ := List.mem_map.1 hx
    obtain ⟨q, hq, he⟩ := List.mem_map.1 hy
    have := hlt q hq
    rcases hi p hp with hm | hm
    · exact hout q hq (he ▸ hm)
    · omega
  · intro p hp
    simp only [List.flatten_cons, List.mem_append] at hp
    rcases hp with hp | hp
    · exact hc p hp
    · exact k.get (S.own p (by simp only [List.flatten_cons, List.mem_append]; exact .inr hp)) (hout p hp)
  · intro b o hb
    obtain ⟨g1, g2⟩ := S.fz b o hb
    simp only [ids, List.flatten_cons, List.map_append, List.mem_append, not_or] at g2 ⊢
    refine ⟨k.get g1 g2.1, fun hm => ?_, g2.2⟩
    obtain ⟨p, hp, rfl⟩ := List.mem_map.1 hm
    rcases hi p hp with hm | hm
    · exact g2.1 hm
    · have := lt_of_get g1; omega
theorem St.nil (S : St D C h) : St D ([] :: C) h := ⟨S.nd, S.own, S.fz⟩
theorem St.new {o : Obj} {K : Nat → Heap → Prop} (S : St D C h) (hK : ∀ (b : Nat) (h1 : Heap), St D ([(b, o)] :: C) h1 → K b h1) : newB h o K :=
  newB_intro fun h1 hb k s => hK _ h1 (S.nil.upd (k.mono fun x hx => by simp at hx) (by simpa using hb) (by simp) (by simp))
theorem St.freeze {c : Chunk} (S : St D (c :: C) h) : ∃ D', Le D D' ∧ (∀ p ∈ c, D' p.1 = some p.2) ∧ St D' C h := by
  have hnd := S.nd
  simp only [ids, List.flatten_cons, List.map_append, List.nodup_append] at hnd
  obtain ⟨h1, h2, h3⟩ := hnd
  have key : ∀ p ∈ c, ∀ q ∈ c, p.1 = q.1 → p = q := fun p hp q hq e => by
    have hp' := S.own p (by simp [hp])
    have hq' := S.own q (by simp [hq])
    rw [e, hq'] at hp'
    exact Prod.ext e (Option.some.inj hp').symm
  refine ⟨fun b => match c.find? (fun p => p.1 == b) with | some p => some p.2 | none => D b, fun b o hb => ?_, fun p hp => ?_, S.drop.nd, S.drop.own, fun b o hb => ?_⟩
  · have : c.find? (fun p => p.1 == b) = none := by
      rw [List.find?_eq_none]
      intro p hp he
      simp only [beq_iff_eq] at he
      exact (S.fz b o hb).2 (by simp only [ids, List.flatten_cons, List.map_append, List.mem_append]; exact .inl (List.mem_map.2 ⟨p, hp, he⟩))
    simp only [this]; exact hb
  · cases hf : c.find? (fun q => q.1 == p.1) with
    | none => rw [List.find?_eq_none] at hf; exact absurd (by simp) (hf p hp)
    | some q =>
      have h1 := List.mem_of_find?_eq_some hf
      have h2 := List.find?_some hf
      simp only [beq_iff_eq] at h2
      have := key q h1 p hp h2
      subst this
      simp only [hf]
  · cases hf : c.find? (fun q => q.1 == b) with
    | none => rw [hf] at hb; exact ⟨(S.drop.fz b o hb).1, (S.drop.fz b o hb).2⟩
    | some q =>
      rw [hf] at hb
      have h1 := List.mem_of_find?_eq_some hf
      have h2' := List.find?_some hf
      simp only [beq_iff_eq] at h2'
      cases hb
      refine ⟨h2' ▸ S.own q (by simp [h1]), fun hm => ?_⟩
      exact h3 b (List.mem_map.2 ⟨q, h1, h2'⟩) b hm rfl
def arr (is : List Nat) (C : List Chunk) : List Chunk := is.map (fun i => C.getD i []) ++ C.drop is.length
theorem onPtr_s {b o : Nat} {K : Nat → Nat → Prop} (h : K b o) : onPtr (some ⟨b, o, .none⟩) K := h
section
variable {b o : Nat} {c : Array Value} {T : TypeId} {f : Nat × Nat} {c0 c1 c2 c3 c4 c5 : Chunk}
end
section
variable {b : Nat} {T : TypeId} {l : List Value} {c0 c1 c2 c3 c4 c5 : Chunk}
theorem St.st0 {vs : List Value} {o i : Nat} {K : Heap → Prop} (S : St D ([(b, .cells ⟨l⟩ T (0, 0))] :: C) h) (hl : Nat.ble (o + i + vs.length) l.length = true) (hv : vs.all single = true)
    (hK : ∀ h', St D ([(b, .cells ⟨splice l (o + i) vs⟩ T (0, 0))] :: C) h' → K h') : storeS b o vs i h K :=
  storeS_blk (l := l) (e := T) (S.get (List.mem_singleton_self _)) (Nat.le_of_ble_eq_true hl) (List.all_eq_true.1 hv) fun h' hb k s => hK h' (S.upd (by simpa using k) (by simpa using hb) (by simp) (by simp))
theorem St.sk0 {v : Value} {o : Nat} {K : Heap → Prop} (S : St D ([(b, .cells ⟨l⟩ T (0, 0))] :: C) h) (hl : Nat.ble (o + 1) l.length = true) (hv : single v = true)
    (hK : ∀ h', St D ([(b, .cells ⟨l.set o v⟩ T (0, 0))] :: C) h' → K h') : stK h ⟨b, o, .none⟩ v K :=
  stK_blk (S.get (List.mem_singleton_self _)) (by have := Nat.le_of_ble_eq_true hl; simp only [List.size_toArray]; omega) hv fun h' hb k s => hK h' (S.upd (by simpa using k) (by simpa using hb) (by simp) (by simp))
end
inductive U where
  | i (k : IntKind) (n : Int)
  | b (c : Bool)
  | s (x : ByteArray)
  | l (sz : Nat) (rows : List (List U))
  | p (o : Option (List U))
abbrev U.n (x : Int) : U := .i .i64 x
inductive Rd (D : Fz) : Value → U → Prop
  | int (k : IntKind) (n : Int) : Rd D (.int k n) (.i k n)
  | bool (c : Bool) : Rd D (.bool c) (.b c)
  | str (x : ByteArray) : Rd D (.string x) (.s x)
  | nil (a : Option Addr) (c sz : Nat) : Rd D (.slice a 0 c) (.l sz [])
  | pn : Rd D (.pointer none) (.p none)
  | pp (b o : Nat) (arr : Array Value) (T : TypeId) (f : Nat × Nat) (us : List U) (v : Nat → Value) : D b = some (.cells arr T f) → (∀ j u, us[j]? = some u → arr[o + j]? = some (v j)) → (∀ j u, us[j]? = some u → Rd D (v j) u) →
      Rd D (.pointer (some ⟨b, o, none⟩)) (.p (some us))
  | row (b o c : Nat) (arr : Array Value) (T : TypeId) (f : Nat × Nat) (rows : List (List U)) (sz : Nat) (v : Nat → Nat → Value) : D b = some (.cells arr T f) → rows.length ≤ c → (∀ r ∈ rows, r.length = sz) →
      (∀ i j r u, rows[i]? = some r → r[j]? = some u → arr[o + i * sz + j]? = some (v i j)) → (∀ i j r u, rows[i]? = some r → r[j]? = some u → Rd D (v i j) u) →
      Rd D (.slice (some ⟨b, o, none⟩) rows.length c) (.l sz rows)
theorem Rd.mono {v : Value} {u : U} (hr : Rd D v u) (l : Le D D') : Rd D' v u := by
  induction hr with
  | int k n => exact .int k n
  | bool c => exact .bool c
  | str x => exact .str x
  | nil a c sz => exact .nil a c sz
  | pn => exact .pn
  | pp b o arr T f us v h1 h2 h3 ih => exact .pp b o arr T f us v (l _ _ h1) h2 ih
  | row b o c arr T f rows sz v h1 h2 h3 h4 h5 ih => exact .row b o c arr T f rows sz v (l _ _ h1) h2 h3 h4 ih
theorem Rd.int_iff {v : Value} {k : IntKind} {n : Int} : Rd D v (.i k n) ↔ v = .int k n := ⟨fun h => by cases h; rfl, fun h => h ▸ .int k n⟩
theorem Rd.bool_iff {v : Value} {c : Bool} : Rd D v (.b c) ↔ v = .bool c := ⟨fun h => by cases h; rfl, fun h => h ▸ .bool c⟩
theorem Rd.str_iff {v : Value} {x : ByteArray} : Rd D v (.s x) ↔ v = .string x := ⟨fun h => by cases h; rfl, fun h => h ▸ .str x⟩
theorem Rd.shape {v : Value} {sz : Nat} {rows : List (List U)} (h : Rd D v (.l sz rows)) : ∃ a c, v = .slice a rows.length c ∧ rows.length ≤ c ∧ ∀ r ∈ rows, r.length = sz := by
  cases h with
  | nil a c => exact ⟨a, c, rfl, by simp, by simp⟩
  | row b o c arr T f rows sz v h1 h2 h3 h4 h5 => exact ⟨_, _, rfl, h2, h3⟩
theorem Rd.len {a : Option Addr} {n c sz : Nat} {rows : List (List U)} (h : Rd D (.slice a n c) (.l sz rows)) : n = rows.length ∧ n ≤ c := by
  obtain ⟨a', c', e, hl, -⟩ := h.shape; cases e; exact ⟨rfl, hl⟩
inductive RdL (D : Fz) : List Value → List U → Prop
  | nil : RdL D [] []
  | cons {v : Value} {u : U} {vs : List Value} {us : List U} : Rd D v u → RdL D vs us → RdL D (v :: vs) (u :: us)
theorem RdL.mono {vs : List Value} {us : List U} (hr : RdL D vs us) (l : Le D D') : RdL D' vs us := by
  induction hr with
  | nil => exact .nil
  | cons a _ ih => exact .cons (a.mono l) ih
theorem RdL.len {vs : List Value} {us : List U} (hr : RdL D vs us) : vs.length = us.length := by
  induction hr with
  | nil => rfl
  | cons a _ ih => simp [ih]
theorem RdL.of_get {us : List U} (f : Nat → Value) (h : ∀ j u, us[j]? = some u → Rd D (f j) u) : RdL D ((List.range us.length).map f) us := by
  induction us generalizing f with
  | nil => exact .nil
  | cons u us ih =>
    rw [List.length_cons, List.range_succ_eq_map, List.map_cons, List.map_map]
    exact .cons (h 0 u rfl) (ih (f ∘ Nat.succ) fun j w hw => h (j + 1) w (by simpa using hw))
theorem RdL.get {vs : List Value} {us : List U} (hr : RdL D vs us) : ∀ {j : Nat} {u : U}, us[j]? = some u → ∃ v, vs[j]? = some v ∧ Rd D v u := by
  induction hr with
  | nil => intro j u h; simp at h
  | cons a _ ih =>
    intro j u h
    cases j with
    | zero => simp at h; subst h; exact ⟨_, rfl, a⟩
    | succ j => simpa using ih (by simpa using h)
theorem Rd.at {a : Option Addr} {n c sz i : Nat} {rows : List (List U)} {r : List U} (hx : Rd D (.slice a n c) (.l sz rows)) (hi : rows[i]? = some r) :
    ∃ b o, a = some ⟨b, o, none⟩ ∧ Rd D (.pointer (some ⟨b, o + i * sz, none⟩)) (.p (some r)) ∧ r.length = sz := by
  cases hx with
  | nil => simp at hi
  | row b o c arr T f rows sz v h1 h2 h3 h4 h5 =>
    exact ⟨b, o, rfl, .pp b _ arr T f r (v i) h1 (fun j u hu => h4 i j r u hi hu) fun j u hu => h5 i j r u hi hu, h3 r (List.mem_of_getElem? hi)⟩
inductive Own (D : Fz) (T : TypeId) (sz : Nat) : Option Addr → Nat → List (List U) → Chunk → Prop
  | nil : Own D T sz none 0 [] []
  | row (b c : Nat) (arr : Array Value) (rows : List (List U)) (v : Nat → Nat → Value) : arr.size = c * sz → rows.length ≤ c → (∀ r ∈ rows, r.length = sz) →
      (∀ i j r u, rows[i]? = some r → r[j]? = some u → arr[i * sz + j]? = some (v i j)) → (∀ i j r u, rows[i]? = some r → r[j]? = some u → Rd D (v i j) u) →
      Own D T sz (some ⟨b, 0, none⟩) c rows [(b, .cells arr T (0, 0))]
theorem Own.mono {T : TypeId} {sz c : Nat} {a : Option Addr} {rows : List (List U)} {ch : Chunk} (o : Own D T sz a c rows ch) (l : Le D D') : Own D' T sz a c rows ch := by
  cases o with
  | nil => exact .nil
  | row b c arr rows v h1 h2 h3 h4 h5 => exact .row b c arr rows v h1 h2 h3 h4 fun i j r u a b => (h5 i j r u a b).mono l
theorem Own.len {T : TypeId} {sz c : Nat} {a : Option Addr} {rows : List (List U)} {ch : Chunk} (o : Own D T sz a c rows ch) : rows.length ≤ c := by
  cases o with
  | nil => simp
  | row b c arr rows v h1 h2 h3 h4 h5 => exact h2
theorem Own.freeze {T : TypeId} {sz c : Nat} {a : Option Addr} {rows : List (List U)} {ch : Chunk} (o : Own D T sz a c rows ch) (S : St D (ch :: C) h) : ∃ D', Le D D' ∧ St D' C h ∧ Rd D' (.slice a rows.length c) (.l sz rows) := by
  cases o with
  | nil => exact ⟨D, .refl D, S.drop, .nil _ _ _⟩
  | row b c arr rows v h1 h2 h3 h4 h5 =>
    obtain ⟨D', l, g, S'⟩ := S.freeze
    exact ⟨D', l, S', .row b 0 c arr T (0, 0) rows sz v (g (b, _) (by simp)) h2 h3 (fun i j r u a b => by rw [Nat.zero_add]; exact h4 i j r u a b) fun i j r u a b => (h5 i j r u a b).mono l⟩
theorem RdL.single {vs : List Value} {us : List U} (hr : RdL D vs us) : ∀ v ∈ vs, single v = true := by
  induction hr with
  | nil => intro v h; simp at h
  | cons a _ ih =>
    intro v hv
    rcases List.mem_cons.1 hv with rfl | hv
    · cases a <;> rfl
    · exact ih v hv
end Go.Proofs.YtalglagdgabafaaGreat

/- The logic, part b: append and what one makes; slices as parts of slices. -/
set_option linter.unusedVariables false
namespace Go.Proofs.YtalglagdgabafaaGreat
open Go
variable {D D' : Fz} {C : List Chunk} {h h' : Heap} {P : Program}
theorem fl_get {α : Type} {enc : α → List Value} {sz : Nat} (he : ∀ x, (enc x).length = sz) : ∀ (xs : List α) (j : Nat) (v : Value), (xs.flatMap enc)[j]? = some v → ∃ i t x, xs[i]? = some x ∧ (enc x)[t]? = some v ∧ j = i * sz + t
  | [], j, v, h => by simp at h
  | x :: xs, j, v, h => by
    rw [List.flatMap_cons] at h
    by_cases hj : j < sz
    · rw [List.getElem?_append_left (by rw [he]; exact hj)] at h
      exact ⟨0, j, x, rfl, h, by omega⟩
    · rw [List.getElem?_append_right (by rw [he]; omega), he] at h
      obtain ⟨i, t, y, h1, h2, h3⟩ := fl_get he xs (j - sz) v h
      exact ⟨i + 1, t, y, by simpa using h1, h2, by rw [Nat.succ_mul]; omega⟩
theorem fl_len {α : Type} {enc : α → List Value} {sz : Nat} (he : ∀ x, (enc x).length = sz) (xs : List α) : (xs.flatMap enc).length = xs.length * sz := by
  induction xs with
  | nil => simp
  | cons x xs ih => rw [List.flatMap_cons, List.length_append, ih, he, List.length_cons, Nat.succ_mul]; omega
theorem fl_put {α : Type} {enc : α → List Value} {sz : Nat} (he : ∀ x, (enc x).length = sz) : ∀ (xs : List α) (i t : Nat) (x : α) (v : Value), xs[i]? = some x → (enc x)[t]? = some v → (xs.flatMap enc)[i * sz + t]? = some v
  | [], i, t, x, v, h, _ => by simp at h
  | y :: xs, i, t, x, v, h, hv => by
    rw [List.flatMap_cons]
    cases i with
    | zero =>
      simp at h; subst h
      have hj := (List.getElem?_eq_some_iff.1 hv).1
      rw [Nat.zero_mul, Nat.zero_add, List.getElem?_append_left hj]
      exact hv
    | succ i =>
      rw [List.getElem?_append_right (by rw [he]; rw [Nat.succ_mul]; omega)]
      rw [he, show (i + 1) * sz + t - sz = i * sz + t by rw [Nat.succ_mul]; omega]
      exact fl_put he xs i t x v (by simpa using h) hv
def cellsOf (n sz : Nat) (v : Nat → Nat → Value) : List Value := (List.range n).flatMap fun i => (List.range sz).map (v i)
theorem cellsOf_len (n sz : Nat) (v : Nat → Nat → Value) : (cellsOf n sz v).length = n * sz := by
  rw [cellsOf, fl_len (sz := sz) (by simp)]; simp
theorem cellsOf_get {n sz : Nat} {v : Nat → Nat → Value} {j : Nat} {x : Value} (h : (cellsOf n sz v)[j]? = some x) : ∃ i t, i < n ∧ t < sz ∧ j = i * sz + t ∧ x = v i t := by
  obtain ⟨i, t, y, h1, h2, h3⟩ := fl_get (sz := sz) (by simp) _ _ _ h
  obtain ⟨h4, h5⟩ := List.getElem?_eq_some_iff.1 h1
  obtain ⟨h6, h7⟩ := List.getElem?_eq_some_iff.1 h2
  simp at h4 h5 h6 h7
  subst h5
  exact ⟨i, t, h4, h6, h3, h7.symm⟩
theorem cellsOf_put {n sz : Nat} (v : Nat → Nat → Value) {i t : Nat} (hi : i < n) (ht : t < sz) : (cellsOf n sz v)[i * sz + t]? = some (v i t) :=
  fl_put (sz := sz) (by simp) _ i t i _ (by simp [hi]) (by simp [ht])
def Src (D : Fz) (h : Heap) (sz : Nat) (a : Option Addr) (rows : List (List U)) : Prop :=
  (∀ r ∈ rows, r.length = sz) ∧ (rows = [] ∨ ∃ (b o : Nat) (w : Nat → Nat → Value), a = some ⟨b, o, none⟩ ∧ ∀ i j r u, rows[i]? = some r → r[j]? = some u → hcell h ⟨b, o + i * sz + j, none⟩ = some (w i j) ∧ Rd D (w i j) u)
theorem Rd.src {a : Option Addr} {n c sz : Nat} {rows : List (List U)} (x : Rd D (.slice a n c) (.l sz rows)) (S : St D C h) : Src D h sz a rows := by
  refine ⟨(x.shape).elim fun _ h => h.elim fun _ h => h.2.2, ?_⟩
  cases x with
  | nil => exact .inl rfl
  | row b o c arr T f rows sz v h1 h2 h3 h4 h5 => exact .inr ⟨b, o, v, rfl, fun i j r u hi hj => ⟨by rw [hcell_of (S.fz _ _ h1).1]; exact h4 i j r u hi hj, h5 i j r u hi hj⟩⟩
theorem Rd.part {a : Option Addr} {n c sz : Nat} {rows : List (List U)} (x : Rd D (.slice a n c) (.l sz rows)) {l r : Nat} (hl : l ≤ r) (hr : r ≤ n) : Rd D (.slice (slA a c l sz) (subN r l) (subN c l)) (.l sz ((rows.take r).drop l)) := by
  have hsub : ∀ p q, subN p q = p - q := fun p q => by
    unfold subN
    cases q with
    | zero => rfl
    | succ q => rfl
  rw [hsub, hsub]
  cases x with
  | nil =>
    have : r = 0 := by omega
    subst this
    simp only [List.take_nil, List.drop_nil, Nat.zero_sub]
    exact .nil _ _ _
  | row b o c arr T f rows sz v h1 h2 h3 h4 h5 =>
    have hlen : ((rows.take r).drop l).length = r - l := by simp; omega
    by_cases hz : (rows.take r).drop l = []
    · rw [hz]; have : r - l = 0 := by rw [← hlen, hz]; rfl
      rw [this]; exact .nil _ _ _
    have hlt : l < r := by
      rcases Nat.lt_or_ge l r with h | h
      · exact h
      · exfalso; apply hz; apply List.eq_nil_of_length_eq_zero; omega
    have ha : slA (some ⟨b, o, none⟩) c l sz = some ⟨b, o + l * sz, none⟩ := by
      unfold slA
      cases l with
      | zero => simp
      | succ l =>
        show (if c = l + 1 then _ else _) = _
        rw [if_neg (by omega)]; rfl
    rw [ha, ← hlen]
    refine .row b (o + l * sz) (c - l) arr T f _ sz (fun i j => v (i + l) j) h1 (by omega) (fun q hq => h3 q (List.mem_of_mem_take (List.mem_of_mem_drop hq))) (fun i j q u hi hj => ?_) (fun i j q u hi hj => ?_)
    · rw [List.getElem?_drop] at hi
      rw [List.getElem?_take] at hi
      have hi' : rows[l + i]? = some q := by split at hi; exact hi; cases hi
      rw [show o + l * sz + i * sz + j = o + (i + l) * sz + j by rw [Nat.add_mul]; omega]
      rw [Nat.add_comm l i] at hi'
      exact h4 _ j q u hi' hj
    · rw [List.getElem?_drop] at hi
      rw [List.getElem?_take] at hi
      have hi' : rows[l + i]? = some q := by split at hi; exact hi; cases hi
      rw [Nat.add_comm l i] at hi'
      exact h5 _ j q u hi' hj
theorem Own.toS {T : TypeId} {sz c : Nat} {a : Option Addr} {rows : List (List U)} {ch : Chunk} (x : Own D T sz a c rows ch) (S : St D (ch :: C) h) : ∃ v, OwnS 0 T sz h a rows.length c (cellsOf rows.length sz v) ∧ ch.map (·.1) = ownB a ∧
    (∀ r ∈ rows, r.length = sz) ∧ ∀ i j r u, rows[i]? = some r → r[j]? = some u → Rd D (v i j) u := by
  cases x with
  | nil => exact ⟨fun _ _ => undef, .nil _ _ _ _, rfl, by simp, by simp⟩
  | row b c arr rows v h1 h2 h3 h4 h5 =>
    refine ⟨v, .inr ⟨b, arr, rfl, Nat.zero_le _, S.get (List.mem_singleton_self _), h1, h2, cellsOf_len _ _ _, fun j x hx => ?_⟩, rfl, h3, h5⟩
    obtain ⟨i, t, hi, ht, rfl, rfl⟩ := cellsOf_get hx
    have hr : rows[i].length = sz := h3 _ (by simp)
    exact h4 i t rows[i] rows[i][t] (by simp [hi]) (by simp [hr, ht])
theorem Own.ofS {T : TypeId} {sz n c : Nat} {a : Option Addr} {rows : List (List U)} {v : Nat → Nat → Value} (x : OwnS 0 T sz h a n c (cellsOf n sz v)) (hn : n = rows.length) (hs : ∀ r ∈ rows, r.length = sz) (hr : ∀ i j r u, rows[i]? = some r → r[j]? = some u → Rd D (v i j) u) :
    ∃ ch, Own D T sz a c rows ch ∧ ch.map (·.1) = ownB a ∧ ∀ p ∈ ch, h[p.1]? = some p.2 := by
  subst hn
  rcases x with ⟨rfl, hn, rfl, -⟩ | ⟨b, l, rfl, -, h2, h3, h4, h5, h6⟩
  · have : rows = [] := List.eq_nil_of_length_eq_zero hn
    subst this
    exact ⟨[], .nil, rfl, by simp⟩
  · refine ⟨_, .row b c l rows v h3 h4 hs (fun i j r u hi hj => ?_) hr, rfl, by simpa using h2⟩
    have e1 := (List.getElem?_eq_some_iff.1 hi).1
    have e2 := (List.getElem?_eq_some_iff.1 hj).1
    rw [hs r (List.mem_of_getElem? hi)] at e2
    exact h6 _ _ (cellsOf_put v e1 e2)
theorem cellsOf_app {n m sz : Nat} {v w : Nat → Nat → Value} : cellsOf n sz v ++ cellsOf m sz w = cellsOf (n + m) sz fun i j => if i < n then v i j else w (i - n) j := by
  unfold cellsOf
  rw [List.range_add, List.flatMap_append]
  congr 1
  · rw [List.flatMap_def, List.flatMap_def]
    congr 1
    refine List.map_congr_left fun i hi => ?_
    simp at hi
    simp [hi]
  · rw [List.flatMap_def, List.flatMap_def, List.map_map]
    congr 1
    refine List.map_congr_left fun i hi => ?_
    simp
    intro a _ hlt; omega
theorem Own.app {T E : TypeId} {i : TypeInfo} {z : Value} {a a2 : Option Addr} {c m cx : Nat} {rows rows2 : List (List U)} {ch : Chunk} {K : Value → Heap → Prop} (own : Own D E i.size a c rows ch) (S : St D (ch :: C) h)
    (hu : P.underlying T = some (.slice E)) (hi : P.info? E = some i) (hz : i.zero = some z) (hzs : z.cells.size = i.size) (hb : i.bytes ≠ 0) (src : Src D h i.size a2 rows2) (hm : m = rows2.length) (hbd : (2 * (rows.length + rows2.length) + 512) * i.bytes ≤ 281474976710656)
    (hne : rows2 ≠ [])
    (hK : ∀ a' c' ch' h', Own D E i.size a' c' (rows ++ rows2) ch' → St D (ch' :: C) h' → K (.slice a' (rows ++ rows2).length c') h') :
    appK P #[T, T] T (.slice a rows.length c) (.slice a2 m cx) h K := by
  subst hm
  obtain ⟨v, os, hids, hs, hr⟩ := own.toS S
  obtain ⟨hs2, hsrc⟩ := src
  obtain ⟨b2, o2, w, rfl, hw⟩ := hsrc.resolve_left hne
  have hsingle : ∀ x ∈ cellsOf rows2.length i.size w, single x = true := fun x hx => by
    obtain ⟨j, hj⟩ := List.mem_iff_getElem?.1 hx
    obtain ⟨k, t, hk, ht, -, rfl⟩ := cellsOf_get hj
    have hr2 : rows2[k].length = i.size := hs2 _ (by simp)
    have := (hw k t rows2[k] rows2[k][t] (by simp [hk]) (by simp [hr2, ht])).2
    exact RdL.single (D := D) (vs := [w k t]) (us := [rows2[k][t]]) (.cons this .nil) _ (by simp)
  refine app_own (P := P) (T := T) (E := E) (B := 0) (new := cellsOf rows2.length i.size w) hu hi hz hzs hb os (Nat.zero_le _) (fun j x hx => ?_) (cellsOf_len _ _ _) hsingle hbd fun a' c' h' os' k' hmv => ?_
  · obtain ⟨k, t, hk, ht, rfl, rfl⟩ := cellsOf_get hx
    have hr2 : rows2[k].length = i.size := hs2 _ (by simp)
    have := (hw k t rows2[k] rows2[k][t] (by simp [hk]) (by simp [hr2, ht])).1
    rw [← this, Nat.add_assoc]
  · rw [cellsOf_app] at os'
    obtain ⟨ch', own', hids', hget⟩ := Own.ofS (rows := rows ++ rows2) os' (by simp) (fun r hr' => (List.mem_append.1 hr').elim (hs r) (hs2 r)) fun k j r u hk hj => by
      by_cases hkl : k < rows.length
      · rw [List.getElem?_append_left hkl] at hk
        simp only [if_pos hkl]; exact hr k j r u hk hj
      · rw [List.getElem?_append_right (by omega)] at hk
        simp only [if_neg hkl]; exact (hw _ j r u hk hj).2
    have hl : (rows ++ rows2).length = rows.length + rows2.length := by simp
    rw [← hl]
    refine hK a' c' ch' h' own' (S.upd (by rw [hids]; exact k') hget ?_ fun p hp => ?_)
    · rw [hids']; cases a' <;> simp [ownB]
    · have hp' : p.1 ∈ ownB a' := by rw [← hids']; exact List.mem_map.2 ⟨p, hp, rfl⟩
      rw [hids]
      cases a' with
      | none => simp [ownB] at hp'
      | some ad =>
        rcases os' with ⟨e, -⟩ | ⟨b, l, e, -⟩
        · cases e
        · cases e
          simp [ownB] at hp'; rw [hp']
          exact hmv b 0 rfl
theorem app_nil {T E : TypeId} {i : TypeInfo} {a a2 : Option Addr} {n c cx : Nat} {K : Value → Heap → Prop} (hu : P.underlying T = some (.slice E)) (hi : P.info? E = some i) (hn : n ≤ c) (hK : K (.slice a n c) h) : appK P #[T, T] T (.slice a n c) (.slice a2 0 cx) h K := by
  unfold appK
  show SWp P (underlying T >>= _) h K
  refine SWp_bind (SWp_underlying hu ?_)
  refine SWp_bind (SWp_sizeOf hi ?_)
  refine SWp_bind (SWp_bind (SWp_underlying hu ?_))
  refine SWp_bind ?_
  show SWp P (Builtin.lenOf (.slice a2 0 cx) >>= _) h K
  refine SWp_bind ?_
  show SWp P (if n + 0 ≤ c then _ else _) h K
  rw [if_pos (by omega)]
  have e : ∀ {K' : Array Value → Heap → Prop}, K' #[] h → SWp P (Builtin.firstCells i.size 0 (.slice a2 0 cx)) h K' := by
    intro K' hK'
    cases a2 with
    | none => exact hK'
    | some b =>
      show SWp P (loadCells b (0 * i.size)) h K'
      rw [Nat.zero_mul]; exact hK'
  refine SWp_bind (e ?_)
  cases a with
  | none => exact hK
  | some b => exact SWp_bind hK
def elTyB (P : Program) (T E sz : Nat) : Bool :=
  (match P.underlying T with | some (.slice e) => Nat.beq e E | _ => false) &&
  match P.info? E with
  | some i => Nat.beq i.size sz && !Nat.beq i.bytes 0 && Nat.ble i.bytes 1000 && (match i.zero with | some z => Nat.beq z.cells.size sz | none => false)
  | none => false
structure ElTy (P : Program) (T E sz : Nat) : Prop where
  ty : P.underlying T = some (.slice E)
  inf : ∃ i z, P.info? E = some i ∧ i.size = sz ∧ i.bytes ≠ 0 ∧ i.bytes ≤ 1000 ∧ i.zero = some z ∧ z.cells.size = sz
theorem ElTy.of {T E sz : Nat} (h : elTyB P T E sz = true) : ElTy P T E sz := by
  unfold elTyB at h
  simp only [Bool.and_eq_true] at h
  obtain ⟨h1, h2⟩ := h
  refine ⟨?_, ?_⟩
  · cases hu : P.underlying T with
    | none => rw [hu] at h1; cases h1
    | some d =>
      rw [hu] at h1
      cases d <;> simp at h1
      rw [h1]
  · cases hi : P.info? E with
    | none => rw [hi] at h2; cases h2
    | some i =>
      rw [hi] at h2
      simp only [Bool.and_eq_true, Bool.not_eq_true'] at h2
      obtain ⟨⟨⟨h3, h4⟩, h5⟩, h6⟩ := h2
      cases hz : i.zero with
      | none => rw [hz] at h6; cases h6
      | some z =>
        rw [hz] at h6
        exact ⟨i, z, rfl, Nat.eq_of_beq_eq_true h3, (fun e => by rw [e] at h4; cases h4), Nat.le_of_ble_eq_true h5, hz, Nat.eq_of_beq_eq_true h6⟩
theorem app_w {T E sz : Nat} {a a2 : Option Addr} {c m n cx : Nat} {r r2 : List (List U)} {ch : Chunk} {K : Value → Heap → Prop} (ty : ElTy P T E sz) (own : Own D E sz a c r ch) (S : St D (ch :: C) h) (src : Src D h sz a2 r2) (hn : n = r.length) (hm : m = r2.length) (hb : r.length + r2.length ≤ 1000000)
    (hK : ∀ a' c' ch' h', Own D E sz a' c' (r ++ r2) ch' → St D (ch' :: C) h' → K (.slice a' (r ++ r2).length c') h') : appK P #[T, T] T (.slice a n c) (.slice a2 m cx) h K := by
  obtain ⟨hT, i, z, hi, hsz, hby, hby2, hz, hzs⟩ := ty
  subst hm hn
  by_cases hr2 : r2 = []
  · subst hr2
    refine app_nil (E := E) hT hi own.len ?_
    simpa using hK a c ch h (by simpa using own) S
  subst hsz
  have hbd : (2 * (r.length + r2.length) + 512) * i.bytes ≤ 281474976710656 := by
    have := Nat.mul_le_mul (show 2 * (r.length + r2.length) + 512 ≤ 2000512 by omega) hby2
    omega
  exact Own.app own S hT hi hz hzs hby src rfl hbd hr2 fun a' c' ch' h' own' S' => hK a' c' ch' h' own' S'
end Go.Proofs.YtalglagdgabafaaGreat

/- The engine, part h: maps with integer keys: looking up, storing, deleting, ranging. -/
namespace Go.Proofs.YtalglagdgabafaaGreat
open Go
section
variable {P : Program}
end
end Go.Proofs.YtalglagdgabafaaGreat

/- Maps, part b: keys that are a number, a text, or several numbers (an array, a struct): how the model finds them. -/
set_option linter.unusedVariables false
namespace Go.Proofs.YtalglagdgabafaaGreat
open Go
inductive MK where
  | n (x : Int)
  | s (b : ByteArray)
  | a (l : List Int)
deriving DecidableEq
def mkV : MK → Value
  | .n x => .int .i64 x
  | .s b => .string b
  | .a l => .agg (l.map (Value.int .i64)).toArray
inductive KT where
  | n
  | s
  | a (w : Nat)
def isI (P : Program) (T : TypeId) : Bool :=
  match P.underlying T with
  | some (.int .i64) => true
  | _ => false
def intFs (P : Program) : List Field → Nat → Bool
  | [], _ => true
  | f :: l, i => (f.offset == i) && (f.name != "_") && isI P f.type && intFs P l (i + 1)
def ktOf (P : Program) (K : TypeId) : Option KT :=
  match P.underlying K with
  | some (.int .i64) => some .n
  | some .string => some .s
  | some (.array n e) => cond (isI P e && (match P.info? e with | some i => Nat.beq i.size 1 | none => false)) (some (.a n)) none
  | some (.struct fs) => cond (intFs P fs.toList 0 && !P.stoodInHeld K) (some (.a fs.size)) none
  | _ => none
def KT.has : KT → MK → Bool
  | .n, .n _ => true
  | .s, .s _ => true
  | .a w, .a l => Nat.beq l.length w
  | _, _ => false
theorem isI_iff {P : Program} {T : TypeId} (h : isI P T = true) : P.underlying T = some (.int .i64) := by
  unfold isI at h
  split at h
  · assumption
  · cases h
theorem mkV_inj : ∀ {a b : MK}, mkV a = mkV b → a = b
  | .n x, .n y, h => by simp [mkV] at h; rw [h]
  | .s x, .s y, h => by simp [mkV] at h; rw [h]
  | .a x, .a y, h => by
    simp only [mkV, Value.agg.injEq] at h
    have h2 := congrArg Array.toList h
    simp only at h2
    have : x = y := by
      have inj : ∀ {x y : List Int}, x.map (Value.int .i64) = y.map (Value.int .i64) → x = y := by
        intro x
        induction x with
        | nil => intro y hh; cases y with | nil => rfl | cons _ _ => simp at hh
        | cons a x ih =>
          intro y hh
          cases y with
          | nil => simp at hh
          | cons b y => simp at hh; rw [hh.1, ih (by simpa using hh.2)]
      exact inj (by simpa using h2)
    rw [this]
  | .n _, .s _, h => by simp [mkV] at h
  | .n _, .a _, h => by simp [mkV] at h
  | .s _, .n _, h => by simp [mkV] at h
  | .s _, .a _, h => by simp [mkV] at h
  | .a _, .n _, h => by simp [mkV] at h
  | .a _, .s _, h => by simp [mkV] at h
section
variable {P : Program} {w : World}
theorem run_eqInt {T : TypeId} (hT : isI P T = true) (d : Nat) (a b : Int) : (Op.equalIn (d + 1) T (.int .i64 a) (.int .i64 b)).run P w = .ok (a == b) w := run_equalIn_int w d T _ _ _ _ (isI_iff hT)
theorem run_partInt {T : TypeId} (hT : isI P T = true) {cs : Array Value} {o : Nat} {v : Value} (hv : cs[o]? = some v) : (part T cs o).run P w = .ok v w :=
  run_part_flat (by rw [isI_iff hT]) hv w
theorem ints_get (l : List Int) (i : Nat) : (l.map (Value.int .i64)).toArray[i]? = (l[i]?).map (Value.int .i64) := by simp
theorem run_eqItemsI {e : TypeId} (hT : isI P e = true) (d : Nat) (a b : List Int) : ∀ (n s : Nat), s + n = a.length → a.length = b.length →
    (Op.eqItems (d + 1) e 1 (a.map (Value.int .i64)).toArray (b.map (Value.int .i64)).toArray (List.range' s n)).run P w = .ok (decide (a.drop s = b.drop s)) w
  | 0, s, h1, h2 => by
    rw [List.drop_eq_nil_of_le (by omega), List.drop_eq_nil_of_le (by omega)]
    simp [Op.eqItems]
  | n + 1, s, h1, h2 => by
    have ha : s < a.length := by omega
    have hb : s < b.length := by omega
    have ih := run_eqItemsI hT d a b n (s + 1) (by omega) h2
    have pa : (part e (a.map (Value.int .i64)).toArray (s * 1)).run P w = .ok (.int .i64 a[s]) w := run_partInt hT (by rw [Nat.mul_one, ints_get, List.getElem?_eq_getElem ha]; rfl)
    have pb : (part e (b.map (Value.int .i64)).toArray (s * 1)).run P w = .ok (.int .i64 b[s]) w := run_partInt hT (by rw [Nat.mul_one, ints_get, List.getElem?_eq_getElem hb]; rfl)
    simp only [List.range'_succ, Op.eqItems, Sem.run_bind, pa, pb, run_eqInt hT, Result.andThen_ok]
    rw [List.drop_eq_getElem_cons ha, List.drop_eq_getElem_cons hb]
    by_cases hab : a[s] = b[s]
    · simp only [hab, beq_self_eq_true, Bool.not_true, Bool.false_eq_true, if_false, ih, List.cons.injEq, true_and]
    · have : (a[s] == b[s]) = false := by simpa using hab
      simp only [this, Bool.not_false, if_true, Sem.run_pure, List.cons.injEq, hab, false_and, decide_false]
theorem run_eqFieldsI (d : Nat) (a b : List Int) : ∀ (fs : List Field) (i : Nat), intFs P fs i = true → i + fs.length = a.length → a.length = b.length →
    (Op.eqFields (d + 1) (a.map (Value.int .i64)).toArray (b.map (Value.int .i64)).toArray fs).run P w = .ok (decide (a.drop i = b.drop i)) w
  | [], i, hf, h1, h2 => by
    simp only [List.length_nil] at h1
    rw [List.drop_eq_nil_of_le (by omega), List.drop_eq_nil_of_le (by omega)]
    simp [Op.eqFields]
  | f :: fs, i, hf, h1, h2 => by
    simp only [intFs, Bool.and_eq_true, beq_iff_eq, bne_iff_ne] at hf
    obtain ⟨⟨⟨ho, hn⟩, hT⟩, hr⟩ := hf
    simp only [List.length_cons] at h1
    have ha : i < a.length := by omega
    have hb : i < b.length := by omega
    have ih := run_eqFieldsI d a b fs (i + 1) hr (by omega) h2
    have pa : (part f.type (a.map (Value.int .i64)).toArray i).run P w = .ok (.int .i64 a[i]) w := run_partInt hT (by rw [ints_get, List.getElem?_eq_getElem ha]; rfl)
    have pb : (part f.type (b.map (Value.int .i64)).toArray i).run P w = .ok (.int .i64 b[i]) w := run_partInt hT (by rw [ints_get, List.getElem?_eq_getElem hb]; rfl)
    simp only [Op.eqFields, if_pos hn, ho, Sem.run_bind, pa, pb, run_eqInt hT, Result.andThen_ok]
    rw [List.drop_eq_getElem_cons ha, List.drop_eq_getElem_cons hb]
    by_cases hab : a[i] = b[i]
    · simp only [hab, beq_self_eq_true, Bool.not_true, Bool.false_eq_true, if_false, ih, List.cons.injEq, true_and]
    · have : (a[i] == b[i]) = false := by simpa using hab
      simp only [this, Bool.not_false, if_true, Sem.run_pure, List.cons.injEq, hab, false_and, decide_false]
theorem run_eqKey {K : TypeId} {n : Nat} (hk : ktOf P K = some (.a n)) {a b : List Int} (h1 : a.length = n) (h2 : b.length = n) : (Op.equal K (mkV (.a a)) (mkV (.a b))).run P w = .ok (decide (a = b)) w := by
  unfold ktOf at hk
  unfold Op.equal Op.maxDepth mkV
  split at hk <;> try (cases hk; done)
  · rename_i m e hu
    cases hc : (isI P e && (match P.info? e with | some i => Nat.beq i.size 1 | none => false)) with
    | false => rw [hc] at hk; cases hk
    | true =>
      rw [hc] at hk
      simp only [cond_true, Option.some.injEq, KT.a.injEq] at hk
      subst hk
      simp only [Bool.and_eq_true] at hc
      obtain ⟨hT, hi⟩ := hc
      cases hinf : P.info? e with
      | none => rw [hinf] at hi; cases hi
      | some i =>
        rw [hinf] at hi
        have hsz : P.cellsOf e = 1 := by simp only [Program.cellsOf, hinf]; exact Nat.eq_of_beq_eq_true hi
        rw [show (10000 : Nat) = 9998 + 1 + 1 from rfl, run_equalIn_array w (9998 + 1) _ _ hu hinf, hsz, List.range_eq_range']
        have := run_eqItemsI (P := P) (w := w) hT 9998 a b m 0 (by omega) (by omega)
        simpa using this
  · rename_i fs hu
    cases hc : (intFs P fs.toList 0 && !P.stoodInHeld K) with
    | false => rw [hc] at hk; cases hk
    | true =>
      rw [hc] at hk
      simp only [cond_true, Option.some.injEq, KT.a.injEq] at hk
      subst hk
      simp only [Bool.and_eq_true, Bool.not_eq_true'] at hc
      have hfo : P.fieldsOf K = fs := by simp [Program.fieldsOf, hu]
      rw [show (10000 : Nat) = 9998 + 1 + 1 from rfl, run_equalIn_struct w (9998 + 1) K _ _ (by rw [hfo]; exact hu) hc.2, hfo]
      have := run_eqFieldsI (P := P) (w := w) 9998 a b fs.toList 0 hc.1 (by simpa using h1.symm) (by omega)
      simpa using this
end
end Go.Proofs.YtalglagdgabafaaGreat

/- Maps, part c: a map's entries as a list; looked up, stored, taken away. -/
set_option linter.unusedVariables false
namespace Go.Proofs.YtalglagdgabafaaGreat
open Go Go.MapKept
abbrev MV := List (MK × Value)
def mIdx : MV → MK → Nat → Option (Nat × Value)
  | [], _, _ => none
  | p :: m, k, i => if p.1 = k then some (i, p.2) else mIdx m k (i + 1)
def mEnt (es : List MapEntry) (m : MV) : Prop := es.map (fun e => (e.key, e.val)) = m.map fun p => (mkV p.1, p.2)
theorem mEnt_nil {m : MV} (h : mEnt [] m) : m = [] := by unfold mEnt at h; cases m <;> simp at h ⊢
theorem mEnt_cons {e : MapEntry} {es : List MapEntry} {m : MV} (h : mEnt (e :: es) m) : ∃ p l, m = p :: l ∧ e.key = mkV p.1 ∧ e.val = p.2 ∧ mEnt es l := by
  cases m with
  | nil => simp [mEnt] at h
  | cons p l =>
    simp only [mEnt, List.map_cons, List.cons.injEq, Prod.mk.injEq] at h
    exact ⟨p, l, rfl, h.1.1, h.1.2, h.2⟩
theorem mEnt_len {es : List MapEntry} {m : MV} (h : mEnt es m) : es.length = m.length := by have := congrArg List.length h; simpa using this
theorem mEnt_get {es : List MapEntry} {m : MV} (h : mEnt es m) {i : Nat} {e : MapEntry} (hi : es[i]? = some e) : ∃ p, m[i]? = some p ∧ e.key = mkV p.1 ∧ e.val = p.2 := by
  have h2 := congrArg (fun l => l[i]?) h
  simp only [List.getElem?_map, hi, Option.map_some] at h2
  cases hm : m[i]? with
  | none => rw [hm] at h2; simp at h2
  | some p =>
    rw [hm] at h2
    simp only [Option.map_some, Option.some.injEq, Prod.mk.injEq] at h2
    exact ⟨p, rfl, h2.1, h2.2⟩
section
variable {P : Program} {w : World} {K : TypeId} {kt : KT}
theorem kt_n {k : MK} (h : KT.n.has k = true) : ∃ x, k = .n x := by cases k <;> simp [KT.has] at h; exact ⟨_, rfl⟩
theorem kt_s {k : MK} (h : KT.s.has k = true) : ∃ x, k = .s x := by cases k <;> simp [KT.has] at h; exact ⟨_, rfl⟩
theorem kt_a {n : Nat} {k : MK} (h : (KT.a n).has k = true) : ∃ l, k = .a l ∧ l.length = n := by
  cases k with
  | a l => exact ⟨l, rfl, Nat.eq_of_beq_eq_true h⟩
  | n x => simp [KT.has] at h
  | s x => simp [KT.has] at h
theorem ktOf_n (h : ktOf P K = some .n) : P.underlying K = some (.int .i64) := by
  unfold ktOf at h
  split at h
  · assumption
  · cases h
  · generalize (isI P _ && _) = c at h; cases c <;> simp at h
  · generalize (intFs P _ 0 && _) = c at h; cases c <;> simp at h
  · cases h
theorem ktOf_s (h : ktOf P K = some .s) : P.underlying K = some .string := by
  unfold ktOf at h
  split at h
  · cases h
  · assumption
  · generalize (isI P _ && _) = c at h; cases c <;> simp at h
  · generalize (intFs P _ 0 && _) = c at h; cases c <;> simp at h
  · cases h
theorem ktOf_a {n : Nat} (h : ktOf P K = some (.a n)) : (∃ e i, P.underlying K = some (.array n e) ∧ isI P e = true ∧ P.info? e = some i ∧ i.size = 1) ∨ ∃ fs, P.underlying K = some (.struct fs) ∧ intFs P fs.toList 0 = true ∧ fs.size = n := by
  unfold ktOf at h
  split at h
  · cases h
  · cases h
  · rename_i m e hu
    left
    generalize hc : (isI P e && _) = c at h
    cases c with
    | false => cases h
    | true =>
      simp only [cond_true, Option.some.injEq, KT.a.injEq] at h
      subst h
      simp only [Bool.and_eq_true] at hc
      obtain ⟨hT, hi⟩ := hc
      cases hinf : P.info? e with
      | none => rw [hinf] at hi; cases hi
      | some i => rw [hinf] at hi; exact ⟨e, i, hu, hT, hinf, Nat.eq_of_beq_eq_true hi⟩
  · rename_i fs hu
    right
    cases hc : (intFs P fs.toList 0 && !P.stoodInHeld K) with
    | false => rw [hc] at h; cases h
    | true =>
      rw [hc] at h
      simp only [cond_true, Option.some.injEq, KT.a.injEq] at h
      simp only [Bool.and_eq_true] at hc
      exact ⟨fs, hu, hc.1, h⟩
  · cases h
theorem run_checkInt {T : TypeId} (hT : isI P T = true) (em : Bool) (d : Nat) (x : Int) : (Instr.checkKey em (d + 1) T (.int .i64 x)).run P w = .ok () w :=
  run_checkKey (isI_iff hT) (show IsKey (.int .i64) (.int .i64 x) from rfl) em d
theorem run_checkK (hk : ktOf P K = some kt) {k : MK} (hx : kt.has k = true) (em : Bool) : (Instr.checkKey em 10000 K (mkV k)).run P w = .ok () w := by
  cases kt with
  | n => obtain ⟨x, rfl⟩ := kt_n hx; exact run_checkKey (ktOf_n hk) (show IsKey (.int .i64) (.int .i64 x) from rfl) em 9999
  | s => obtain ⟨x, rfl⟩ := kt_s hx; exact run_checkKey (ktOf_s hk) (show IsKey .string (.string x) from trivial) em 9999
  | a n =>
    obtain ⟨l, rfl, hl⟩ := kt_a hx
    rcases ktOf_a hk with ⟨e, i, hu, hT, hi, hs⟩ | ⟨fs, hu, hf, hs⟩
    · rw [show (10000 : Nat) = 9998 + 1 + 1 from rfl, Instr.checkKey]
      simp only [Sem.run_bind, run_underlying hu, Result.andThen_ok, mkV]
      simp only [Std.Legacy.Range.forIn_eq_forIn_range', Std.Legacy.Range.size, Nat.sub_zero, Nat.add_one_sub_one, Nat.div_one]
      have hsz : P.cellsOf e = 1 := by simp only [Program.cellsOf, hi]; exact hs
      have hj : ∀ j ∈ List.range' 0 n, j < l.length := fun j hj => by simp at hj; omega
      generalize List.range' 0 n = is at hj
      induction is with
      | nil => simp
      | cons j is ih =>
        have hlt := hj j (by simp)
        have pa : (part e (l.map (Value.int .i64)).toArray (j * 1)).run P w = .ok (.int .i64 l[j]) w := run_partInt hT (by rw [Nat.mul_one, ints_get, List.getElem?_eq_getElem hlt]; rfl)
        simp only [List.forIn_cons, Sem.run_bind, run_sizeOf w hi, hsz, Result.andThen_ok, pa, run_checkInt hT, Sem.run_pure]
        exact ih fun y hy => hj y (by simp [hy])
    · rw [show (10000 : Nat) = 9998 + 1 + 1 from rfl, Instr.checkKey]
      simp only [Sem.run_bind, run_underlying hu, Result.andThen_ok, mkV]
      rw [← Array.forIn_toList]
      have hll : 0 + fs.toList.length = l.length := by simp [hs, hl]
      clear hu hs hl
      generalize fs.toList = L at hf hll
      generalize 0 = i at hf hll
      induction L generalizing i with
      | nil => simp
      | cons f L ih =>
        simp only [intFs, Bool.and_eq_true, beq_iff_eq, bne_iff_ne] at hf
        obtain ⟨⟨⟨ho, hn⟩, hT⟩, hr⟩ := hf
        simp only [List.length_cons] at hll
        have hlt : i < l.length := by omega
        have pa : (part f.type (l.map (Value.int .i64)).toArray i).run P w = .ok (.int .i64 l[i]) w := run_partInt hT (by rw [ints_get, List.getElem?_eq_getElem hlt]; rfl)
        simp only [List.forIn_cons, Sem.run_bind, hn, ne_eq, not_false_eq_true, if_true, ho, Result.andThen_ok, pa, run_checkInt hT, Sem.run_pure]
        exact ih (i + 1) hr (by omega)
theorem run_askK {n : Nat} (hk : ktOf P K = some (.a n)) {k : MK} (hx : (KT.a n).has k = true) : ∀ (es : List MapEntry) (m : MV) (i : Nat), mEnt es m → (∀ p ∈ m, (KT.a n).has p.1 = true) → (Instr.findAsking K (mkV k) es i).run P w = .ok (mIdx m k i) w
  | [], m, i, he, _ => by rw [mEnt_nil he]; rfl
  | e :: es, m, i, he, hh => by
    obtain ⟨p, l, rfl, h1, h2, h3⟩ := mEnt_cons he
    obtain ⟨a, rfl, ha⟩ := kt_a hx
    obtain ⟨b, hb, hbl⟩ := kt_a (hh p (by simp))
    have ih := run_askK hk hx es l (i + 1) h3 fun q hq => hh q (by simp [hq])
    obtain ⟨pk, pv⟩ := p
    simp only at hb h1 h2
    subst hb
    simp only [Instr.findAsking, h1, h2, Sem.run_bind, run_eqKey hk ha hbl, Result.andThen_ok, mIdx]
    by_cases hab : a = b
    · subst hab; simp
    · have h4 : MK.a b ≠ MK.a a := fun e => hab (by injection e with e; exact e.symm)
      simp only [hab, decide_false, Bool.false_eq_true, if_false, h4, ih]
theorem now_spec {d : TypeDesc} (hd : ∀ k k' : MK, kt.has k = true → kt.has k' = true → Instr.sameNow d (mkV k) (mkV k') = some (decide (k' = k))) {k : MK} (hx : kt.has k = true) : ∀ (es : List MapEntry) (m : MV) (i : Nat), mEnt es m → (∀ p ∈ m, kt.has p.1 = true) → Instr.findNow d (mkV k) es i = some (mIdx m k i)
  | [], m, i, he, _ => by rw [mEnt_nil he]; rfl
  | e :: es, m, i, he, hh => by
    obtain ⟨p, l, rfl, h1, h2, h3⟩ := mEnt_cons he
    have ih := now_spec hd hx es l (i + 1) h3 fun q hq => hh q (by simp [hq])
    unfold Instr.findNow
    rw [h1, hd k p.1 hx (hh p (by simp))]
    simp only [mIdx]
    by_cases hpk : p.1 = k
    · simp [hpk, h2]
    · simp [hpk, ih]
theorem run_findK (hk : ktOf P K = some kt) {k : MK} (hx : kt.has k = true) {es : List MapEntry} {m : MV} (he : mEnt es m) (hh : ∀ p ∈ m, kt.has p.1 = true) : (Instr.findKey K (mkV k) es).run P w = .ok (mIdx m k 0) w := by
  cases kt with
  | n =>
    have hu := ktOf_n hk
    refine run_findKey hu (now_spec (fun a b ha hb => ?_) hx es m 0 he hh)
    obtain ⟨x, rfl⟩ := kt_n ha
    obtain ⟨y, rfl⟩ := kt_n hb
    simp only [mkV, Instr.sameNow, if_true, MK.n.injEq]
    congr 1
    by_cases hxy : x = y
    · simp [hxy]
    · simp [hxy, Ne.symm hxy]
  | s =>
    have hu := ktOf_s hk
    refine run_findKey hu (now_spec (fun a b ha hb => ?_) hx es m 0 he hh)
    obtain ⟨x, rfl⟩ := kt_s ha
    obtain ⟨y, rfl⟩ := kt_s hb
    simp only [mkV, Instr.sameNow, MK.s.injEq]
    congr 1
    by_cases hxy : x = y
    · rw [(bytes_beq x y).2 hxy]; simp [hxy]
    · have : (x == y) = false := by
        cases hc : (x == y) with
        | false => rfl
        | true => exact absurd ((bytes_beq x y).1 hc) hxy
      simp [this, Ne.symm hxy]
  | a n =>
    have hu : ∃ d, P.underlying K = some d ∧ ∀ e (es : List MapEntry), Instr.findNow d (mkV k) (e :: es) 0 = none := by
      obtain ⟨l, rfl, -⟩ := kt_a hx
      rcases ktOf_a hk with ⟨e, i, hu, -⟩ | ⟨fs, hu, -⟩
      · exact ⟨_, hu, fun e es => rfl⟩
      · exact ⟨_, hu, fun e es => rfl⟩
    obtain ⟨d, hu, hf⟩ := hu
    cases es with
    | nil => rw [mEnt_nil he]; exact run_findKey hu rfl
    | cons e es =>
      have := run_askK (P := P) (w := w) hk hx (e :: es) m 0 he hh
      simp [Instr.findKey, run_underlying hu, Result.andThen, hf, this]
theorem sameBits_k (k : MK) : Instr.sameBits 10000 (mkV k) (mkV k) = true := by
  cases k with
  | n x => simp [mkV, Instr.sameBits]
  | s x => simp only [mkV, Instr.sameBits]; exact (bytes_beq x x).2 rfl
  | a l =>
    rw [show (10000 : Nat) = 9999 + 1 from rfl]
    simp only [mkV, Instr.sameBits, beq_self_eq_true, Bool.true_and]
    induction l with
    | nil => rfl
    | cons x l ih =>
      simp only [List.map_cons, List.zip_cons_cons, List.all_cons, Bool.and_eq_true] at ih ⊢
      exact ⟨by simp [Instr.sameBits], ih⟩
theorem run_stays (k : MK) : (Instr.keyThatStays (mkV k) (mkV k)).run P w = .ok (mkV k) w := by
  unfold Instr.keyThatStays
  rw [if_pos (sameBits_k k)]
  rfl
end
end Go.Proofs.YtalglagdgabafaaGreat

/- From the rows' reading of arguments to data: any type of numbers, truth values, strings, structs, arrays and slices. -/
set_option linter.unusedVariables false
namespace Go.Proofs.YtalglagdgabafaaGreat
open Go Go.Proofs
inductive Ds where
  | nil
  | i (k : IntKind) (r : Ds)
  | b (r : Ds)
  | s (r : Ds)
  | l (z : Nat) (e r : Ds)
def contig (P : Program) : List Field → Nat → Nat → Bool
  | [], o, n => o == n
  | f :: fs, o, n => f.offset == o && contig P fs (o + P.cellsOf f.type) n
def dsAll (g : TypeId → Ds → Option Ds) : List TypeId → Ds → Option Ds
  | [], r => some r
  | t :: ts, r => (dsAll g ts r).bind (g t)
def dsOf (P : Program) : Nat → TypeId → Ds → Option Ds
  | 0, _, _ => none
  | n + 1, t, r =>
    match P.underlying t with
    | some .bool => some (.b r)
    | some (.int k) => some (.i k r)
    | some .string => some (.s r)
    | some (.slice e) => if P.cellsOf e = 0 then none else (dsOf P n e .nil).map fun d => .l (P.cellsOf e) d r
    | some (.struct fs) => if contig P fs.toList 0 (P.cellsOf t) then dsAll (dsOf P n) (fs.toList.map (·.type)) r else none
    | some (.array m e) => if P.cellsOf t = m * P.cellsOf e then dsAll (dsOf P n) (List.replicate m e) r else none
    | _ => none
def ShU : Ds → List U → Prop
  | .nil, us => us = []
  | .i k r, us => ∃ n us', us = .i k n :: us' ∧ (Lit.int k n).wf = true ∧ ShU r us'
  | .b r, us => ∃ c us', us = .b c :: us' ∧ ShU r us'
  | .s r, us => ∃ x us', us = .s x :: us' ∧ x.size ≤ maxLen ∧ ShU r us'
  | .l z e r, us => ∃ rows us', us = .l z rows :: us' ∧ rows.length ≤ maxLen ∧ (∀ row ∈ rows, ShU e row) ∧ ShU r us'
theorem RdL.append {D : Fz} {vs ws : List Value} {us xs : List U} (h : RdL D vs us) (k : RdL D ws xs) : RdL D (vs ++ ws) (us ++ xs) := by
  induction h with
  | nil => exact k
  | cons a _ ih => exact .cons a ih
theorem mapM_get {α β : Type} {f : α → Option β} : ∀ {l : List α} {r : List β}, l.mapM f = some r → r.length = l.length ∧ ∀ (i : Nat) (x : α), l[i]? = some x → ∃ y, f x = some y ∧ r[i]? = some y
  | [], r, h => by simp at h; subst h; exact ⟨rfl, by simp⟩
  | x :: l, r, h => by
    rw [List.mapM_cons] at h
    cases hx : f x with
    | none => rw [hx] at h; cases h
    | some y =>
      rw [hx] at h
      cases hl : l.mapM f with
      | none => rw [hl] at h; cases h
      | some ys =>
        rw [hl] at h
        cases h
        obtain ⟨h1, h2⟩ := mapM_get hl
        refine ⟨by simp [h1], fun i z hz => ?_⟩
        cases i with
        | zero => simp at hz; subst hz; exact ⟨y, hx, rfl⟩
        | succ i => simpa using h2 i z (by simpa using hz)
section
variable {H : Type} {enc : TypeId × Value → H} {P : Program} {w : World} {sp : Nat → Bool} {held : Bool}
def allD (h : Heap) : Fz := fun b => h[b]?
theorem all_rd {R : List Value → List U → Prop} (hR : ∀ {a b us xs}, R a us → R b xs → R (a ++ b) (us ++ xs)) (hR0 : R [] []) {g : TypeId → Ds → Option Ds} {r : TypeId → List Value → Option (DataW H × List MemPlace)}
    (ih : ∀ t cs x d rest, g t rest = some d → r t cs = some x → ∃ us, R cs us ∧ us.length = cs.length ∧ ∀ us', ShU rest us' → ShU d (us ++ us')) :
    ∀ (ts : List TypeId) (css : List (List Value)) (d rest : Ds), dsAll g ts rest = some d → css.length = ts.length → (∀ (i : Nat) (t : TypeId) (cs : List Value), ts[i]? = some t → css[i]? = some cs → ∃ x, r t cs = some x) →
      ∃ us, R css.flatten us ∧ us.length = css.flatten.length ∧ ∀ us', ShU rest us' → ShU d (us ++ us')
  | [], css, d, rest, hd, hl, _ => by
    have : css = [] := List.eq_nil_of_length_eq_zero hl
    subst this
    cases hd
    exact ⟨[], hR0, rfl, fun us' h => h⟩
  | t :: ts, css, d, rest, hd, hl, hx => by
    cases css with
    | nil => simp at hl
    | cons cs css =>
      simp only [dsAll, Option.bind_eq_some_iff] at hd
      obtain ⟨d1, hd1, hd2⟩ := hd
      obtain ⟨us, h1, h2, h3⟩ := all_rd hR hR0 ih ts css d1 rest hd1 (by simpa using hl) fun i t' cs' a b => hx (i + 1) t' cs' (by simpa using a) (by simpa using b)
      obtain ⟨x, hxx⟩ := hx 0 t cs rfl rfl
      obtain ⟨vs, g1, g2, g3⟩ := ih t cs x d d1 hd2 hxx
      exact ⟨vs ++ us, by simpa using hR g1 h1, by simp [g2, h2], fun us' hu => by rw [List.append_assoc]; exact g3 _ (h3 _ hu)⟩
theorem cells_get {a : Addr} {n : Nat} {cs : List Value} (h : w.cells? 0 a n = some cs) : cs.length = n ∧ ∀ j, j < n → w.cell? (a.add j) = cs[j]? := by
  unfold World.cells? at h
  rw [if_pos (Nat.zero_le _)] at h
  obtain ⟨h1, h2⟩ := mapM_get h
  refine ⟨by simpa using h1, fun j hj => ?_⟩
  obtain ⟨y, e1, e2⟩ := h2 j j (by simp [hj])
  rw [e1, e2]
theorem drops {P : Program} {cs : List Value} : ∀ (fs : List Field) (o : Nat), contig P fs o cs.length = true → o ≤ cs.length → (fs.map fun f => (cs.drop f.offset).take (P.cellsOf f.type)).flatten = cs.drop o
  | [], o, h, _ => by simp only [contig, beq_iff_eq] at h; subst h; simp
  | f :: fs, o, h, ho => by
    simp only [contig, Bool.and_eq_true, beq_iff_eq] at h
    obtain ⟨rfl, h2⟩ := h
    have hle : f.offset + P.cellsOf f.type ≤ cs.length := by
      have : ∀ (fs : List Field) (o : Nat), contig P fs o cs.length = true → o ≤ cs.length := by
        intro fs
        induction fs with
        | nil => intro o h; simp only [contig, beq_iff_eq] at h; omega
        | cons f fs ih => intro o h; simp only [contig, Bool.and_eq_true, beq_iff_eq] at h; have := ih _ h.2; omega
      exact this _ _ h2
    rw [List.map_cons, List.flatten_cons, drops fs _ h2 hle, ← List.drop_drop, List.take_append_drop]
theorem drops_arr {cs : List Value} {k : Nat} : ∀ (m o : Nat), cs.length = (o + m) * k → ((List.range m).map fun i => (cs.drop ((o + i) * k)).take k).flatten = cs.drop (o * k)
  | 0, o, h => by simp [h]
  | m + 1, o, h => by
    rw [List.range_succ_eq_map, List.map_cons, List.flatten_cons, List.map_map]
    have h1 := drops_arr (cs := cs) (k := k) m (o + 1) (by rw [h]; congr 1; omega)
    have : ((List.range m).map ((fun i => (cs.drop ((o + i) * k)).take k) ∘ Nat.succ)) = (List.range m).map fun i => (cs.drop ((o + 1 + i) * k)).take k := List.map_congr_left fun i _ => by simp only [Function.comp, Nat.succ_eq_add_one]; rw [show o + (i + 1) = o + 1 + i by omega]
    rw [this, h1, Nat.add_zero, show (o + 1) * k = o * k + k by rw [Nat.succ_mul], ← List.drop_drop, List.take_append_drop]
set_option maxRecDepth 10000 in
theorem trod_rd : ∀ (m n : Nat) (t : TypeId) (cs : List Value) (x : DataW H × List MemPlace) (d rest : Ds), dsOf P m t rest = some d → DataW.trod enc P w 0 sp held n t cs = some x →
    ∃ us, RdL (allD w.heap) cs us ∧ us.length = cs.length ∧ ∀ us', ShU rest us' → ShU d (us ++ us')
  | 0, n, t, cs, x, d, rest, hd, hx => by cases hd
  | m + 1, 0, t, cs, x, d, rest, hd, hx => by cases hx
  | m + 1, n + 1, t, cs, x, d, rest, hd, hx => by
    have ih := trod_rd m n
    rw [DataW.trod_step] at hx
    unfold dsOf at hd
    cases hu : P.underlying t with
    | none => rw [hu] at hd; cases hd
    | some td =>
      rw [hu] at hd
      cases td with
      | bool =>
        cases hd
        unfold DataW.trodStep at hx
        rw [hu] at hx
        split at hx <;> simp_all
        exact ⟨[.b _], .cons (.bool _) .nil, rfl, fun us' h => ⟨_, us', rfl, h⟩⟩
      | int k =>
        cases hd
        unfold DataW.trodStep at hx
        rw [hu] at hx
        split at hx <;> simp_all
        rename_i k' nn e1
        obtain ⟨⟨rfl, hw⟩, -⟩ := hx
        exact ⟨[.i k' nn], .cons (.int _ _) .nil, rfl, fun us' h => ⟨nn, us', rfl, hw, h⟩⟩
      | string =>
        cases hd
        unfold DataW.trodStep at hx
        rw [hu] at hx
        split at hx <;> simp_all
        exact ⟨[.s _], .cons (.str _) .nil, rfl, fun us' h => ⟨_, us', rfl, hx.1, h⟩⟩
      | slice e =>
        simp only at hd
        split at hd
        · cases hd
        rename_i hce
        simp only [Option.map_eq_some_iff] at hd
        obtain ⟨de, hde, rfl⟩ := hd
        rw [← DataW.trod_step] at hx
        rcases Go.Deep.open_slice hu hx with ⟨rfl, -⟩ | ⟨a, len, cap, mm, n', DD, Pl, rfl, hb, hl, hm, hmm, -, hel⟩
        · exact ⟨[.l (P.cellsOf e) []], .cons (.nil _ _ _) .nil, rfl, fun us' h => ⟨[], us', rfl, by simp, by simp, h⟩⟩
        have hlm : len ≤ mm := by rw [hmm]; split <;> omega
        by_cases h0 : len = 0
        · subst h0
          exact ⟨[.l (P.cellsOf e) []], .cons (.nil _ _ _) .nil, rfl, fun us' h => ⟨[], us', rfl, by simp, by simp, h⟩⟩
        have each : ∀ i, ∃ q : List Value × List U, i < len → w.cells? 0 (a.add (i * P.cellsOf e)) (P.cellsOf e) = some q.1 ∧ RdL (allD w.heap) q.1 q.2 ∧ q.2.length = q.1.length ∧ ShU de q.2 := by
          intro i
          by_cases hi : i < len
          · obtain ⟨cs', h1, h2⟩ := hel i (by omega)
            obtain ⟨us, g1, g2, g3⟩ := trod_rd m n' e cs' _ de .nil hde h2
            exact ⟨(cs', us), fun _ => ⟨h1, g1, g2, by simpa using g3 [] rfl⟩⟩
          · exact ⟨([], []), fun h => absurd h hi⟩
        have each' : ∀ i, ∃ q : List Value × List U, i < len → w.cells? 0 (a.add (i * P.cellsOf e)) (P.cellsOf e) = some q.1 ∧ RdL (allD w.heap) q.1 q.2 ∧ q.2.length = q.1.length ∧ ShU de q.2 := each
        let Q : Nat → List Value × List U := fun i => Classical.choose (each' i)
        have hQ : ∀ i, i < len → w.cells? 0 (a.add (i * P.cellsOf e)) (P.cellsOf e) = some (Q i).1 ∧ RdL (allD w.heap) (Q i).1 (Q i).2 ∧ (Q i).2.length = (Q i).1.length ∧ ShU de (Q i).2 := fun i => Classical.choose_spec (each' i)
        obtain ⟨b, o, spot⟩ := a
        have hc0 : ∀ i j, i < len → j < P.cellsOf e → w.cell? (((⟨b, o, spot⟩ : Addr).add (i * P.cellsOf e)).add j) = (Q i).1[j]? ∧ j < (Q i).1.length := fun i j hi hj => by
          obtain ⟨h1, h2⟩ := cells_get (hQ i hi).1
          exact ⟨h2 j hj, by omega⟩
        have hsp : spot = none := by
          cases spot with
          | none => rfl
          | some z =>
            exfalso
            obtain ⟨h1, h2⟩ := hc0 0 0 (by omega) (by omega)
            rw [List.getElem?_eq_getElem h2] at h1
            have : w.cell? ⟨b, o, some z⟩ = some ((Q 0).1[0]) := by simpa [Addr.add] using h1
            unfold World.cell? at this
            split at this
            · simp at this
            · cases this
        subst hsp
        have hcell : ∀ i j, i < len → j < P.cellsOf e → hcell w.heap ⟨b, o + i * P.cellsOf e + j, none⟩ = (Q i).1[j]? := fun i j hi hj => by
          have h1 := (hc0 i j hi hj).1
          rw [add_plain, add_plain] at h1
          exact h1
        have hblk : ∃ arr T f, w.heap[b]? = some (.cells arr T f) := by
          have h1 := hcell 0 0 (by omega) (by omega)
          rw [List.getElem?_eq_getElem (hc0 0 0 (by omega) (by omega)).2] at h1
          unfold Go.Proofs.YtalglagdgabafaaGreat.hcell at h1
          cases hbb : w.heap[b]? with
          | none => simp [hbb] at h1
          | some ob =>
            cases ob <;> simp [hbb] at h1
            exact ⟨_, _, _, rfl⟩
        obtain ⟨arr, T, f, hbk⟩ := hblk
        have hlen : ((List.range len).map fun i => (Q i).2).length = len := by simp
        have hrow : ∀ {i : Nat} {r : List U}, ((List.range len).map fun i => (Q i).2)[i]? = some r → i < len ∧ r = (Q i).2 := fun {i r} hr => by
          rw [List.getElem?_map] at hr
          cases hri : (List.range len)[i]? with
          | none => rw [hri] at hr; cases hr
          | some k =>
            rw [hri] at hr
            obtain ⟨h1, h2⟩ := List.getElem?_eq_some_iff.1 hri
            simp at h1 h2 hr
            subst h2
            exact ⟨h1, hr.symm⟩
        have hr : Rd (allD w.heap) (.slice (some ⟨b, o, none⟩) len cap) (.l (P.cellsOf e) ((List.range len).map fun i => (Q i).2)) := by
          have := Rd.row (D := allD w.heap) b o cap arr T f ((List.range len).map fun i => (Q i).2) (P.cellsOf e) (fun i j => (Q i).1.getD j undef) hbk (by rw [hlen]; exact hl)
            (fun r hr => by
              obtain ⟨i, hi, rfl⟩ := List.mem_map.1 hr
              have hi' : i < len := by simpa using hi
              rw [(hQ i hi').2.2.1, (cells_get (hQ i hi').1).1])
            (fun i j r u hi hj => by
              obtain ⟨h1, rfl⟩ := hrow hi
              have hj' : j < P.cellsOf e := by
                have := (List.getElem?_eq_some_iff.1 hj).1
                rwa [(hQ i h1).2.2.1, (cells_get (hQ i h1).1).1] at this
              have := hcell i j h1 hj'
              rw [hcell_of hbk] at this
              rw [this]
              simp [(hc0 i j h1 hj').2])
            (fun i j r u hi hj => by
              obtain ⟨h1, rfl⟩ := hrow hi
              obtain ⟨v, hv, hrd⟩ := (hQ i h1).2.1.get hj
              simp only [List.getD_eq_getElem?_getD, hv, Option.getD_some]; exact hrd)
          rwa [hlen] at this
        refine ⟨[.l (P.cellsOf e) _], .cons hr .nil, rfl, fun us' h => ⟨_, us', rfl, by rw [hlen]; omega, fun row hrow' => ?_, h⟩⟩
        obtain ⟨i, hi, rfl⟩ := List.mem_map.1 hrow'
        exact (hQ i (by simpa using hi)).2.2.2
      | struct fs =>
        simp only at hd
        split at hd
        · rename_i hct
          unfold DataW.trodStep at hx
          rw [hu] at hx
          simp only at hx
          split at hx
          · rename_i hl
            simp only [Option.map_eq_some_iff] at hx
            obtain ⟨xs, hxs, -⟩ := hx
            obtain ⟨h1, h2⟩ := mapM_get hxs
            rw [← hl] at hct
            have hfl := drops fs.toList 0 hct (Nat.zero_le _)
            rw [List.drop_zero] at hfl
            have := all_rd (R := RdL (allD w.heap)) (fun a b => a.append b) .nil (g := dsOf P m) (r := DataW.trod enc P w 0 sp held n) (fun t cs x d rest a b => ih t cs x d rest a b) (fs.toList.map (·.type)) (fs.toList.map fun f => (cs.drop f.offset).take (P.cellsOf f.type)) d rest hd (by simp) fun i t' cs' a b => by
              rw [List.getElem?_map] at a b
              cases hf : fs.toList[i]? with
              | none => rw [hf] at a; cases a
              | some f =>
                rw [hf] at a b
                cases a; cases b
                obtain ⟨y, hy, -⟩ := h2 i f hf
                exact ⟨y, hy⟩
            rw [hfl] at this
            exact this
          · cases hx
        · cases hd
      | array k e =>
        simp only at hd
        split at hd
        · rename_i hct
          unfold DataW.trodStep at hx
          rw [hu] at hx
          simp only at hx
          split at hx
          · rename_i hl
            simp only [Option.map_eq_some_iff] at hx
            obtain ⟨xs, hxs, -⟩ := hx
            obtain ⟨h1, h2⟩ := mapM_get hxs
            rw [hct] at hl
            have hfl := drops_arr (cs := cs) (k := P.cellsOf e) k 0 (by rw [hl, Nat.zero_add])
            rw [Nat.zero_mul, List.drop_zero] at hfl
            simp only [Nat.zero_add] at hfl
            have := all_rd (R := RdL (allD w.heap)) (fun a b => a.append b) .nil (g := dsOf P m) (r := DataW.trod enc P w 0 sp held n) (fun t cs x d rest a b => ih t cs x d rest a b) (List.replicate k e) ((List.range k).map fun i => (cs.drop (i * P.cellsOf e)).take (P.cellsOf e)) d rest hd (by simp) fun i t' cs' a b => by
              rw [List.getElem?_map] at b
              obtain ⟨a1, a2⟩ := List.getElem?_eq_some_iff.1 a
              simp at a1 a2
              subst a2
              rw [List.getElem?_range a1] at b
              cases b
              obtain ⟨y, hy, -⟩ := h2 i i (by simp [a1])
              exact ⟨y, hy⟩
            rw [hfl] at this
            exact this
          · cases hx
        · cases hd
      | _ => cases hd
end
section
variable {H : Type} {enc : TypeId × Value → H} {P : Program} {W : World} {sp : Nat → Bool} {held : Bool}
theorem open_data {t : TypeId} {ds : Ds} {v : Value} {d : DataW H} {ps : List MemPlace} (hd : dsOf P 12 t .nil = some ds) (h : DataW.Trod enc P W 0 sp held t v d ps) : ∃ us, RdL (allD W.heap) v.cells.toList us ∧ ShU ds us := by
  obtain ⟨fuel, hf⟩ := h
  obtain ⟨us, h1, -, h3⟩ := trod_rd 12 fuel t _ _ ds .nil hd hf
  exact ⟨us, h1, by simpa using h3 [] rfl⟩
end
theorem St.all (h : Heap) : St (allD h) [] h := ⟨by simp [ids], by simp, fun b o hb => ⟨hb, by simp [ids]⟩⟩
theorem St.kept {h h' : Heap} {C : List Chunk} {D : Fz} (l : Le (allD h) D) (S : St D C h') : Keep h h' where
  size := by
    rcases Nat.lt_or_ge h'.size h.size with hlt | hge
    · exfalso
      have h1 := (S.fz h'.size _ (l _ _ (show allD h h'.size = some h[h'.size] by simp [allD, hlt]))).1
      have := lt_of_get h1; omega
    · exact hge
  blk b hb _ := by
    have h1 := (S.fz b _ (l _ _ (show allD h b = some h[b] by simp [allD, hb]))).1
    rw [h1]; simp [hb]
end Go.Proofs.YtalglagdgabafaaGreat

/- Maps, part d: what is done with a map's block. -/
set_option linter.unusedVariables false
namespace Go.Proofs.YtalglagdgabafaaGreat
open Go Go.MapKept
def mGet : MV → MK → Option Value
  | [], _ => none
  | p :: m, k => if p.1 = k then some p.2 else mGet m k
def mSet : MV → MK → Value → MV
  | [], k, v => [(k, v)]
  | p :: m, k, v => if p.1 = k then (k, v) :: m else p :: mSet m k v
def mDel : MV → MK → MV
  | [], _ => []
  | p :: m, k => if p.1 = k then m else p :: mDel m k
theorem mIdx_get (m : MV) (k : MK) : ∀ i, (mIdx m k i).map (·.2) = mGet m k := by
  induction m with
  | nil => intro i; rfl
  | cons p m ih => intro i; simp only [mIdx, mGet]; split; rfl; exact ih _
theorem mIdx_none {m : MV} {k : MK} : ∀ {i}, mIdx m k i = none → (∀ p ∈ m, p.1 ≠ k) ∧ ∀ v, mSet m k v = m ++ [(k, v)] := by
  induction m with
  | nil => intro i _; exact ⟨by simp, fun v => rfl⟩
  | cons p m ih =>
    intro i h
    simp only [mIdx] at h
    split at h
    · cases h
    · rename_i hk
      obtain ⟨h1, h2⟩ := ih h
      refine ⟨fun q hq => ?_, fun v => ?_⟩
      · rcases List.mem_cons.1 hq with rfl | hq
        · exact hk
        · exact h1 q hq
      · simp only [mSet, if_neg hk, h2 v, List.cons_append]
theorem mIdx_some {m : MV} {k : MK} : ∀ {i j : Nat} {v : Value}, mIdx m k i = some (j, v) → ∃ n, j = i + n ∧ m[n]? = some (k, v) ∧ (∀ x, mSet m k x = m.set n (k, x)) ∧ mDel m k = m.eraseIdx n := by
  induction m with
  | nil => intro i j v h; simp [mIdx] at h
  | cons p m ih =>
    intro i j v h
    simp only [mIdx] at h
    split at h
    · rename_i hk
      simp only [Option.some.injEq, Prod.mk.injEq] at h
      obtain ⟨rfl, rfl⟩ := h
      obtain ⟨pk, pv⟩ := p
      simp only at hk
      subst hk
      exact ⟨0, rfl, rfl, fun x => by simp [mSet], by simp [mDel]⟩
    · rename_i hk
      obtain ⟨n, h1, h2, h3, h4⟩ := ih h
      exact ⟨n + 1, by omega, by simpa using h2, fun x => by simp only [mSet, if_neg hk, h3 x, List.set_cons_succ], by simp only [mDel, if_neg hk, h4, List.eraseIdx_cons_succ]⟩
theorem mSet_has {kt : KT} {m : MV} {k : MK} {v : Value} (hk : kt.has k = true) (hh : ∀ p ∈ m, kt.has p.1 = true) : ∀ p ∈ mSet m k v, kt.has p.1 = true := by
  induction m with
  | nil => intro p hp; simp [mSet] at hp; subst hp; exact hk
  | cons q m ih =>
    intro p hp
    simp only [mSet] at hp
    split at hp
    · rcases List.mem_cons.1 hp with rfl | hp
      · exact hk
      · exact hh p (by simp [hp])
    · rcases List.mem_cons.1 hp with rfl | hp
      · exact hh _ (by simp)
      · exact ih (fun r hr => hh r (by simp [hr])) p hp
theorem mDel_sub (m : MV) (k : MK) : (mDel m k).Sublist m := by
  induction m with
  | nil => exact .refl _
  | cons q m ih =>
    simp only [mDel]
    split
    · exact List.sublist_cons_self _ _
    · exact ih.cons_cons _
structure MpI (kt : KT) (es : Array MapEntry) (clk : Nat) (m : MV) : Prop where
  ent : mEnt es.toList m
  st : Stamped es clk
  has : ∀ p ∈ m, kt.has p.1 = true
theorem MpI.nil (kt : KT) : MpI kt #[] 0 [] := ⟨rfl, stamped_empty 0, by simp⟩
theorem MpI.keyOf {kt : KT} {es : Array MapEntry} {clk : Nat} {m : MV} (I : MpI kt es clk m) {e : MapEntry} (he : e ∈ es.toList) : ∃ p ∈ m, e.key = mkV p.1 ∧ e.val = p.2 := by
  obtain ⟨i, hi⟩ := List.mem_iff_getElem?.1 he
  obtain ⟨p, hp, h1, h2⟩ := mEnt_get I.ent hi
  exact ⟨p, List.mem_of_getElem? hp, h1, h2⟩
section
variable {P : Program} {w : World} {T K E : TypeId} {kt : KT} {b : Nat} {es : Array MapEntry} {clk : Nat} {m : MV} {k : MK}
theorem run_look (hT : P.underlying T = some (.map K E)) (hk : ktOf P K = some kt) {i : TypeInfo} {z : Value} (hi : P.info? E = some i) (hz : i.zero = some z) (hb : w.heap[b]? = some (.map es clk)) (I : MpI kt es clk m) (hx : kt.has k = true) (ok : Bool) :
    (Instr.lookup T (.map (some b)) (mkV k) ok).run P w = .ok (if ok then .tuple #[(mGet m k).getD z, .bool (mGet m k).isSome] else (mGet m k).getD z) w := by
  have hg := mIdx_get m k 0
  have hzr : (zeroValue E).run P w = .ok z w := by
    simp only [zeroValue, Sem.run_bind, run_typeInfo w hi, Result.andThen_ok, hz, Sem.run_pure]
  simp only [Instr.lookup, Sem.run_bind, run_underlying hT, Result.andThen_ok, MapKept.run_getObj_map hb, Sem.run_pure, run_checkK hk hx, run_findK hk hx I.ent I.has]
  cases hf : mIdx m k 0 with
  | none =>
    rw [hf] at hg
    simp only [Option.map_none] at hg
    rw [← hg]
    simp only [Sem.run_bind, hzr, Result.andThen_ok, Sem.run_pure]
    cases ok <;> rfl
  | some p =>
    rw [hf] at hg
    simp only [Option.map_some] at hg
    rw [← hg]
    simp only [Sem.run_bind, Result.andThen_ok, Sem.run_pure]
    cases ok <;> rfl
theorem run_look0 (hT : P.underlying T = some (.map K E)) (hk : ktOf P K = some kt) {i : TypeInfo} {z : Value} (hi : P.info? E = some i) (hz : i.zero = some z) (hx : kt.has k = true) (ok : Bool) :
    (Instr.lookup T (.map none) (mkV k) ok).run P w = .ok (if ok then .tuple #[z, .bool false] else z) w := by
  have hzr : (zeroValue E).run P w = .ok z w := by
    simp only [zeroValue, Sem.run_bind, run_typeInfo w hi, Result.andThen_ok, hz, Sem.run_pure]
  have hf := run_findK (P := P) (w := w) hk hx (es := []) (m := []) rfl (by simp)
  simp only [Instr.lookup, Sem.run_bind, run_underlying hT, Result.andThen_ok, Sem.run_pure, run_checkK hk hx, hf, mIdx, hzr]
theorem run_upd (hT : P.underlying T = some (.map K E)) (hk : ktOf P K = some kt) (hb : w.heap[b]? = some (.map es clk)) (I : MpI kt es clk m) (hx : kt.has k = true) (v : Value) :
    ∃ es' clk', (Instr.mapUpdate T (.map (some b)) (mkV k) v).run P w = .ok () { w with heap := w.heap.setIfInBounds b (.map es' clk') } ∧ MpI kt es' clk' (mSet m k v) := by
  cases hf : mIdx m k 0 with
  | none =>
    obtain ⟨h1, h2⟩ := mIdx_none hf
    refine ⟨es.push ⟨mkV k, v, clk⟩, clk + 1, ?_, ?_, stamped_push I.st ?_, mSet_has hx I.has⟩
    · simp [Instr.mapUpdate, run_underlying hT, MapKept.run_getObj_map hb, run_checkK hk hx, run_findK hk hx I.ent I.has, hf, MapKept.run_setObj_map _ hb, Result.andThen]
    · unfold mEnt
      rw [h2 v]
      have := I.ent
      unfold mEnt at this
      simp [this]
    · intro e he hke
      obtain ⟨p, hp, h3, -⟩ := I.keyOf he
      exact h1 p hp (mkV_inj (h3.symm.trans hke))
  | some q =>
    obtain ⟨j, u⟩ := q
    obtain ⟨n, h1, h2, h3, -⟩ := mIdx_some hf
    rw [Nat.zero_add] at h1
    subst h1
    have hjl : j < es.toList.length := by rw [mEnt_len I.ent]; exact (List.getElem?_eq_some_iff.1 h2).1
    obtain ⟨p, hp, hpk, -⟩ := mEnt_get I.ent (List.getElem?_eq_getElem hjl)
    rw [h2] at hp
    cases hp
    have hj : es[j]? = some es.toList[j] := by rw [← Array.getElem?_toList, List.getElem?_eq_getElem hjl]
    have hkeyf : ∀ e ∈ es.toList, es[j]? = some e → ({ e with key := mkV k, val := v } : MapEntry).key = e.key := fun e _ he => by
      rw [hj] at he; cases he; exact hpk.symm
    have hmod : (es.modify j fun e => { e with key := mkV k, val := v }).toList = es.toList.modify j fun e => { e with key := mkV k, val := v } := by simp
    refine ⟨es.modify j fun e => { e with key := mkV k, val := v }, clk, ?_, ?_, stamped_modify I.st _ _ (fun _ _ => rfl) hkeyf, mSet_has hx I.has⟩
    · have hgk : ((es[j]?).map (·.key)).getD (mkV k) = mkV k := by rw [hj]; exact hpk
      simp only [Instr.mapUpdate, Sem.run_bind, run_underlying hT, MapKept.run_getObj_map hb, run_checkK hk hx, run_findK hk hx I.ent I.has, hf, hgk, run_stays, MapKept.run_setObj_map _ hb, Result.andThen_ok]
    · unfold mEnt
      rw [hmod, h3 v]
      apply List.ext_getElem?
      intro i
      have h4 := congrArg (fun l => l[i]?) I.ent
      simp only [List.getElem?_map] at h4
      simp only [List.getElem?_map, List.getElem?_modify, List.getElem?_set]
      by_cases hij : j = i
      · subst hij
        simp only [if_true]
        rw [List.getElem?_eq_getElem hjl]
        simp [show j < m.length by rw [← mEnt_len I.ent]; exact hjl]
      · simp only [hij, if_false]
        cases hee : es.toList[i]? with
        | none => rw [hee] at h4; simpa using h4
        | some e => rw [hee] at h4; simpa using h4
theorem run_del {ty : TypeId} (hT : P.underlying T = some (.map K E)) (hk : ktOf P K = some kt) (hb : w.heap[b]? = some (.map es clk)) (I : MpI kt es clk m) (hx : kt.has k = true) :
    ∃ es', (Builtin.delete_ #[T, K] ty #[.map (some b), mkV k]).run P w = .ok (.tuple #[]) { w with heap := w.heap.setIfInBounds b (.map es' clk) } ∧ MpI kt es' clk (mDel m k) := by
  have hh : ∀ p ∈ mDel m k, kt.has p.1 = true := fun p hp => I.has p ((mDel_sub m k).subset hp)
  cases hf : mIdx m k 0 with
  | none =>
    obtain ⟨h1, h2⟩ := mIdx_none hf
    have h3 : mDel m k = m := by
      have : ∀ l : MV, (∀ p ∈ l, p.1 ≠ k) → mDel l k = l := by
        intro l
        induction l with
        | nil => intro _; rfl
        | cons p l ih => intro h; simp only [mDel, if_neg (h p (by simp)), ih fun q hq => h q (by simp [hq])]
      exact this m h1
    refine ⟨es, ?_, by rw [h3]; exact I⟩
    simp [Builtin.delete_, run_underlying hT, MapKept.run_getObj_map hb, run_checkK hk hx, run_findK hk hx I.ent I.has, hf, MapKept.run_setObj_map _ hb, Result.andThen]
  | some q =>
    obtain ⟨j, u⟩ := q
    obtain ⟨n, h1, h2, -, h4⟩ := mIdx_some hf
    rw [Nat.zero_add] at h1
    subst h1
    have hjl : j < es.toList.length := by rw [mEnt_len I.ent]; exact (List.getElem?_eq_some_iff.1 h2).1
    have hjs : j < es.size := by simpa using hjl
    have hsub : (es.eraseIdxIfInBounds j).toList = es.toList.eraseIdx j := by
      unfold Array.eraseIdxIfInBounds
      rw [dif_pos hjs]
      simp
    refine ⟨es.eraseIdxIfInBounds j, ?_, ?_, stamped_erase I.st j, hh⟩
    · simp [Builtin.delete_, run_underlying hT, MapKept.run_getObj_map hb, run_checkK hk hx, run_findK hk hx I.ent I.has, hf, MapKept.run_setObj_map _ hb, Result.andThen]
    · unfold mEnt
      rw [hsub, h4]
      have e := I.ent
      unfold mEnt at e
      rw [Go.ChangeMaps.map_eraseIdx, e, ← Go.ChangeMaps.map_eraseIdx]
end
end Go.Proofs.YtalglagdgabafaaGreat

/- The symbolic engine, part a: abstract values and memory; code over them (definitions alone). -/
set_option linter.unusedVariables false
namespace Go.Proofs.YtalglagdgabafaaGreat
open Go
inductive V where
  | u (x : U)
  | r (b o : Nat)
  | e (b sz : Nat) (k : Int) (o : Nat)
  | g (b o w : Nat) (k : Int)
  | q (c : List U) (o : Nat)
  | w (b : Nat)
  | c (sz : Nat) (rows : List (List U))
  | m (b : Nat)
  | nm
  | nl (s : Nat)
  | f (g : FuncId) (a c : List V)
  | a (l : List V)
  | t (l : List V)
  | n (k : IntKind) (w : Nat) (l : List Int)
  | z
  | y (b : Nat)
  /-- Of an own row's n elements from l on; c: there is room for no more. -/
  | v (b sz l n : Nat) (c : Bool)
  /-- n elements that stand in a block of cells, from o on. -/
  | sl (b o n : Nat)
abbrev V.i (n : Int) : V := .u (.i .i64 n)
abbrev V.l (s : Nat) (x : List (List U)) : V := .u (.l s x)
structure Ob where
  f : Fz → Nat → Chunk → Prop
  mono : ∀ {D D' : Fz} {b : Nat} {c : Chunk}, f D b c → Le D D' → f D' b c
inductive AB where
  | c (l : List V)
  | w (E sz : Nat) (rows : List (List U))
  | o (I : Ob)
  | p (kt : KT) (sz : Nat) (ag : Bool) (rows : List (MK × List U))
  | tk
  | x
abbrev Mem := List AB
def vget : List V → Nat → V
  | [], _ => .z
  | v :: _, 0 => v
  | _ :: l, n + 1 => vget l n
def vset : List V → Nat → V → List V
  | [], _, _ => []
  | _ :: l, 0, v => v :: l
  | x :: l, n + 1, v => x :: vset l n v
def vput (t : List V) (d : Option Tmp) (v : V) : List V :=
  match d with
  | some i => vset t i v
  | none => t
def mg : Mem → Nat → AB
  | [], _ => .x
  | a :: _, 0 => a
  | _ :: l, n + 1 => mg l n
def ms : Mem → Nat → AB → Mem
  | [], _, _ => []
  | _ :: l, 0, v => v :: l
  | y :: l, n + 1, v => y :: ms l n v
def ug : List U → Nat → Option U
  | [], _ => none
  | v :: _, 0 => some v
  | _ :: l, n + 1 => ug l n
def ofV1 : Value → V
  | .int k n => .u (.i k n)
  | .bool c => .u (.b c)
  | .string s => .u (.s s)
  | .pointer none => .u (.p none)
  | .slice none 0 0 => .nl 0
  | .map none => .nm
  | .func (.func g) ⟨[]⟩ ⟨[]⟩ => .f g [] []
  | _ => .z
def ofV : Value → V
  | .agg cs => .a (cs.toList.map ofV1)
  | v => ofV1 v
def evS (t : List V) : Operand → V
  | .tmp i => vget t i
  | .const v => ofV v
  | .func f => .f f [] []
  | .global _ => .z
def conc1 : V → Option Value
  | .u (.i k n) => some (.int k n)
  | .u (.b c) => some (.bool c)
  | .u (.s s) => some (.string s)
  | _ => none
def concL : List V → Option (List Value)
  | [] => some []
  | v :: l => match conc1 v, concL l with
    | some x, some xs => some (x :: xs)
    | _, _ => none
def conc : V → Option Value
  | .a l => match concL l with
    | some xs => some (.agg xs.toArray)
    | none => none
  | v => conc1 v
def wd : V → Nat
  | .n _ w _ => w
  | _ => 1
def dropC : Nat → List V → Option (List V)
  | 0, l => some l
  | _ + 1, [] => none
  | o + 1, x :: l => cond (Nat.ble (wd x) (o + 1) && !Nat.beq (wd x) 0) (dropC (o + 1 - wd x) l) none
termination_by structural _ l => l
def prefC : Nat → List V → Option (List V)
  | 0, _ => some []
  | _ + 1, [] => none
  | n + 1, x :: l => cond (Nat.ble (wd x) (n + 1) && !Nat.beq (wd x) 0) (match prefC (n + 1 - wd x) l with | some r => some (x :: r) | none => none) none
termination_by structural _ l => l
def wds : List V → Nat
  | [] => 0
  | x :: l => wd x + wds l
def putC (new : List V) : Nat → List V → Option (List V)
  | 0, l => match dropC (wds new) l with | some r => some (new ++ r) | none => none
  | _ + 1, [] => none
  | o + 1, x :: l => cond (Nat.ble (wd x) (o + 1) && !Nat.beq (wd x) 0) (match putC new (o + 1 - wd x) l with | some r => some (x :: r) | none => none) none
termination_by structural _ l => l
def intsOf : Nat → List V → Option (List Int × List V)
  | 0, l => some ([], l)
  | n + 1, .u (.i .i64 x) :: l => match intsOf n l with | some (xs, r) => some (x :: xs, r) | none => none
  | _ + 1, _ => none
def wl (P : Program) : Nat → TypeId → List Nat
  | 0, _ => [1]
  | d + 1, T => match P.underlying T with
    | some (.struct fs) => fs.toList.flatMap fun f => wl P d f.type
    | some (.array n e) => match P.underlying e with
      | some (.int .i64) => cond (Nat.ble 9 n) [n] (List.replicate n 1)
      | _ => (List.replicate n (wl P d e)).flatten
    | _ => [1]
def group : List Nat → List V → List V
  | [], l => l
  | _ :: _, [] => []
  | w :: ws, x :: l => cond (Nat.beq w 1) (x :: group ws l) (match x with
    | .n k w' xs => .n k w' xs :: group ws l
    | x => match intsOf w (x :: l) with
      | some (xs, r) => .n .i64 w xs :: group ws r
      | none => x :: l)
def leafs (P : Program) : Nat → TypeId → List Nat
  | 0, _ => [0]
  | d + 1, T => match P.underlying T with
    | some (.struct fs) => fs.toList.flatMap fun f => leafs P d f.type
    | some (.array n e) => (List.replicate n (leafs P d e)).flatten
    | some (.slice e) => [lay1 P e]
    | _ => [0]
def fixN : List Nat → List V → List V
  | s :: ss, .nl _ :: l => .nl s :: fixN ss l
  | ss, .n k w x :: l => .n k w x :: fixN (ss.drop w) l
  | _ :: ss, x :: l => x :: fixN ss l
  | [], l => l
  | _, [] => []
termination_by structural _ l => l
def normC (P : Program) (T : TypeId) (l : List V) : List V := group (wl P 9 T) (fixN (leafs P 9 T) l)
def normV (P : Program) (T : TypeId) : V → V
  | .a l => .a (normC P T l)
  | .nl s' => match leafs P 9 T with
    | s :: _ => .nl s
    | [] => .nl s'
  | v => v
def asD : V → V
  | .nl s => .u (.l s [])
  | v => v
def datL : List V → List V
  | [] => []
  | v :: l => asD v :: datL l
def datV : V → V
  | .a l => .a (datL l)
  | v => asD v
def datA : AB → AB
  | .c l => .c (datL l)
  | a => a
def shOk : Value × Nat → V → Bool
  | (.int k _, _), .u (.i k' _) => Nat.beq (kindNo k) (kindNo k')
  | (.bool _, _), .u (.b _) => true
  | (.string _, _), .u (.s _) => true
  | (.slice .., s), .u (.l s' _) => Nat.beq s s'
  | (.slice .., _), .w _ => true
  | (.slice .., s), .c s' _ => Nat.beq s s'
  | (.slice .., s), .nl s' => Nat.beq s s'
  | (.slice .., s), .v _ s' _ _ _ => Nat.beq s s'
  | (.slice .., _), .sl .. => true
  | (.pointer _, _), .u (.p _) => true
  | (.pointer _, _), .r .. => true
  | (.pointer _, _), .e .. => true
  | (.pointer _, _), .g .. => true
  | (.pointer _, _), .q .. => true
  | (.map _, _), .m _ => true
  | (.map _, _), .nm => true
  | (.nilFunc, _), .f .. => true
  | _, _ => false
def isI64 : Value × Nat → Bool
  | (.int .i64 _, _) => true
  | _ => false
def shL : List (Value × Nat) → List V → Bool
  | [], [] => true
  | zs, .n k w _ :: l => Nat.beq (kindNo k) 3 && Nat.ble w zs.length && (zs.take w).all isI64 && shL (zs.drop w) l
  | z :: zs, v :: l => shOk z v && shL zs l
  | _, _ => false
termination_by structural _ l => l
inductive LayS where
  | one (z : Value × Nat)
  | many (zs : List (Value × Nat))
def layS (P : Program) (T : TypeId) : Option LayS :=
  match layOf P T, leafs P 9 T with
  | some (.one z), s :: _ => some (.one (z, s))
  | some (.many zs), ss => cond (Nat.beq zs.length ss.length) (some (.many (zs.zip ss))) none
  | _, _ => none
def elL {α : Type} (l : List α) (k : Int) (K : α → Prop) : Prop :=
  match k with
  | .ofNat i => match l[i]? with | some r => K r | none => False
  | .negSucc _ => False
def oP {α : Type} (o : Option α) (K : α → Prop) : Prop :=
  match o with
  | some c => K c
  | none => False
def dI (k : IntKind) (o : Option U) (K : Int → Prop) : Prop :=
  match o with
  | some (.i k' n) => kindEq k k' (K n)
  | _ => False
def dB (o : Option U) (K : Bool → Prop) : Prop :=
  match o with
  | some (.b c) => K c
  | _ => False
def dS (o : Option U) (K : ByteArray → Prop) : Prop :=
  match o with
  | some (.s c) => K c
  | _ => False
def dL (s : Nat) (o : Option U) (K : List (List U) → Prop) : Prop :=
  match o with
  | some (.l s' c) => cond (Nat.beq s s') (K c) False
  | _ => False
def dP (o : Option U) (K : Option (List U) → Prop) : Prop :=
  match o with
  | some (.p c) => K c
  | _ => False
def dU (z : Value × Nat) (o : Option U) (K : U → Prop) : Prop :=
  match z.1 with
  | .int k _ => dI k o fun n => K (.i k n)
  | .bool _ => dB o fun c => K (.b c)
  | .string _ => dS o fun c => K (.s c)
  | .slice .. => dL z.2 o fun c => K (.l z.2 c)
  | .pointer _ => dP o fun c => K (.p c)
  | _ => False
def dUs : List (Value × Nat) → List U → Nat → (List U → Prop) → Prop
  | [], _, _, K => K []
  | z :: zs, r, o, K => dU z (ug r o) fun u => dUs zs r (o + 1) fun us => K (u :: us)
def apOk (a b : List (List U)) : Prop := a.length + b.length ≤ 1000000
def absV : Value → V
  | .int k n => .u (.i k n)
  | .bool c => .u (.b c)
  | .string s => .u (.s s)
  | _ => .z
def ptrAdd (x : V) (n : Nat) (K : V → Prop) : Prop :=
  match x with
  | .r b o => K (.r b (addO o n))
  | .e b sz k o => K (.e b sz k (addO o n))
  | .q c o => K (.q c (addO o n))
  | .u (.p p) => oP p fun c => K (.q c n)
  | _ => False
def isPtr : V → Bool
  | .r .. => true
  | .e .. => true
  | .g .. => true
  | .q .. => true
  | _ => false
def binS (P : Program) (op : BinOp) (T : TypeId) (x y : V) (K : V → Prop) : Prop :=
  match conc x, conc y with
  | some a, some b => binK P op T a b fun v => K (absV v)
  | _, _ => match y with
    | .u (.p none) => match P.underlying T with
      | some (.pointer _) => (match x with
        | .u (.p p) => nilEq op p.isNone fun v => K (absV v)
        | x => cond (isPtr x) (nilEq op false fun v => K (absV v)) False)
      | _ => False
    | .nm => match P.underlying T with
      | some (.map ..) => (match x with
        | .m _ => nilEq op false fun v => K (absV v)
        | .nm => nilEq op true fun v => K (absV v)
        | _ => False)
      | _ => False
    | _ => False
def pickS (c a b : V) (K : V → Prop) : Prop :=
  match c with
  | .u (.b c) => match a, b with
    | .u (.b x), .u (.b y) => K (.u (.b (cond c x y)))
    | _, _ => cond c (K a) (K b)
  | _ => False
def lenS (m : Mem) : V → (Int → Prop) → Prop
  | .u (.s x), K => K x.size
  | .u (.l _ r), K => K r.length
  | .c _ r, K => K r.length
  | .nl _, K => K 0
  | .w b, K => match mg m b with
    | .w _ _ r => K r.length
    | _ => False
  | .m b, K => match mg m b with
    | .p _ _ _ r => K r.length
    | _ => False
  | .nm, K => K 0
  | .v _ _ _ n _, K => K n
  | .sl _ _ n, K => K n
  | _, _ => False
def okLen : Option TypeDesc → V → Bool
  | some .string, .u (.s _) => true
  | some (.slice _), .u (.l _ _) => true
  | some (.slice _), .c _ _ => true
  | some (.slice _), .nl _ => true
  | some (.slice _), .w _ => true
  | some (.slice _), .v .. => true
  | some (.slice _), .sl .. => true
  | some (.map ..), .m _ => true
  | some (.map ..), .nm => true
  | _, _ => false
def bndS (t : List V) (x : Option Operand) (d : Int) : Option Int :=
  match x with
  | none => some d
  | some x => match evS t x with
    | .u (.i _ i) => some i
    | _ => none
def cellU : List V → Option (List U)
  | [] => some []
  | .u x :: l => match cellU l with | some us => some (x :: us) | none => none
  | .nl s :: l => match cellU l with | some us => some (.l s [] :: us) | none => none
  | _ :: _ => none
def chunk : Nat → Nat → List U → List (List U)
  | 0, _, _ => []
  | n + 1, sz, l => l.take sz :: chunk n sz (l.drop sz)
def oneA (P : Program) (e : TypeId) (us : List V) : V :=
  match layS P e, us with
  | some (.one _), v :: _ => v
  | _, us => .a us
def argsI (t : List V) : List Operand → Option (List Value)
  | [] => some []
  | x :: l => match conc1 (evS t x), argsI t l with
    | some v, some vs => some (v :: vs)
    | _, _ => none
def cellsV : V → Option (List V)
  | .a l => some l
  | .z => none
  | .n .. => none
  | .t _ => none
  | v => some [v]
def vcells (P : Program) (T : TypeId) (v : V) : Option (List V) := cellsV (normV P T v)
def fillC (place : Nat → Option (Nat × Nat)) : List V → List (Nat × V) → Option (List V)
  | l, [] => some l
  | l, (i, v) :: rest => match place i, cellsV v with
    | some (o, s), some xs => cond (Nat.beq (wds xs) s) (match putC xs o l with | some l' => fillC place l' rest | none => none) none
    | _, _ => none
def zerosOf (P : Program) (T : TypeId) : Option (List (Value × Nat)) :=
  match layS P T with
  | some (.one z) => some [z]
  | some (.many zs) => some zs
  | none => none
def load1 (z : Value × Nat) (a : V) (m : Mem) (K : V → Prop) : Prop :=
  match a with
  | .r b o => match mg m b with
    | .c cells => match dropC o cells with
      | some (v :: _) => cond (shOk z v) (K v) False
      | _ => False
    | _ => False
  | .g b o w k => match mg m b with
    | .c cells => match dropC o cells with
      | some (.n k' w' l :: _) => cond (Nat.beq w w' && Nat.beq (kindNo k') 3 && isI64 z) (elL l k fun n => K (.u (.i .i64 n))) False
      | _ => False
    | _ => False
  | .e b sz k o => match mg m b with
    | .w _ sz' rows => cond (Nat.beq sz sz') (elL rows k fun r => dU z (ug r o) fun u => K (.u u)) False
    | _ => False
  | .q c o => dU z (ug c o) fun u => K (.u u)
  | .u (.p p) => oP p fun c => dU z (ug c 0) fun u => K (.u u)
  | _ => False
def loadN (zs : List (Value × Nat)) (a : V) (m : Mem) (K : V → Prop) : Prop :=
  match a with
  | .r b o => match mg m b with
    | .c cells => match dropC o cells with
      | some l => match prefC zs.length l with
        | some vs => cond (shL zs vs) (K (.a vs)) False
        | none => False
      | none => False
    | _ => False
  | .e b sz k o => match mg m b with
    | .w _ sz' rows => cond (Nat.beq sz sz') (elL rows k fun r => dUs zs r o fun us => K (.a (us.map .u))) False
    | _ => False
  | .q c o => dUs zs c o fun us => K (.a (us.map .u))
  | .u (.p p) => oP p fun c => dUs zs c 0 fun us => K (.a (us.map .u))
  | _ => False
def sLoad (P : Program) (T : TypeId) (a : V) (m : Mem) (K : V → Prop) : Prop :=
  match layS P T with
  | some (.one z) => load1 z a m K
  | some (.many zs) => loadN zs a m K
  | none => False
def eqI : List Int → List Int → Bool
  | [], [] => true
  | a :: l, b :: r => (a == b) && eqI l r
  | _, _ => false
def intsA : List V → Option (List Int)
  | [] => some []
  | .u (.i .i64 n) :: l => match intsA l with | some r => some (n :: r) | none => none
  | .n .i64 _ xs :: l => match intsA l with | some r => some (xs ++ r) | none => none
  | _ :: _ => none
def arrE (P : Program) (T : TypeId) (x y : V) : Option Bool :=
  match P.underlying T, ktOf P T, x, y with
  | some (.array ..), some (.a n), .a xs, .a ys => match intsA xs, intsA ys with
    | some a, some b => cond (Nat.beq (wds xs) n && Nat.beq (wds ys) n && !P.eqGuardType P.depth T) (some (eqI a b)) none
    | _, _ => none
  | _, _, _, _ => none
def idxK (i : Int) (n : Nat) (K : Nat → Prop) : Prop :=
  match i with
  | .ofNat j => cond (Nat.ble (j + 1) n) (K j) False
  | .negSucc _ => False
def rGet : List (MK × List U) → MK → Option (List U)
  | [], _ => none
  | p :: m, k => if p.1 = k then some p.2 else rGet m k
def rSet : List (MK × List U) → MK → List U → List (MK × List U)
  | [], k, v => [(k, v)]
  | p :: m, k, v => if p.1 = k then (k, v) :: m else p :: rSet m k v
def rDel : List (MK × List U) → MK → List (MK × List U)
  | [], _ => []
  | p :: m, k => if p.1 = k then m else p :: rDel m k
def mO {α : Type} (o : Option α) (A : α → Prop) (B : Prop) : Prop :=
  match o with
  | some r => A r
  | none => B
def ktEq : KT → KT → Bool
  | .n, .n => true
  | .s, .s => true
  | .a x, .a y => Nat.beq x y
  | _, _ => false
def mkIs : List V → Option (List Int)
  | [] => some []
  | .u (.i .i64 n) :: l => match mkIs l with | some r => some (n :: r) | none => none
  | _ :: _ => none
def mkOf : V → Option MK
  | .u (.i .i64 n) => some (.n n)
  | .u (.s b) => some (.s b)
  | .a l => match mkIs l with | some r => some (.a r) | none => none
  | _ => none
def isAg (P : Program) (T : TypeId) : Bool :=
  match layS P T with
  | some (.many _) => true
  | _ => false
def mapT (P : Program) (T : TypeId) : Option (KT × List (Value × Nat) × TypeId × V) :=
  match P.underlying T with
  | some (.map K E) => match ktOf P K, zerosOf P E, (P.info? E).bind (·.zero) with
    | some kt, some zs, some zv => some (kt, zs, E, normV P E (ofV zv))
    | _, _, _ => none
  | _ => none
def lookR (ok : Bool) (v : V) (b : Bool) : V := cond ok (.t [v, .u (.b b)]) v
def lookS (P : Program) (T : TypeId) (x k : V) (ok : Bool) (m : Mem) (K : V → Prop) : Prop :=
  match mapT P T, mkOf k with
  | some (kt, zs, E, zv), some k => cond (kt.has k) (match x with
    | .m b => match mg m b with
      | .p kt' sz ag rows => cond (ktEq kt kt' && Nat.beq sz zs.length && (ag == isAg P E)) (mO (rGet rows k) (fun r => dUs zs r 0 fun us => K (lookR ok (oneA P E (us.map .u)) true)) (K (lookR ok zv false))) False
      | _ => False
    | .nm => K (lookR ok zv false)
    | _ => False) False
  | _, _ => False
def nilOf (m : Mem) : V → Option (Bool × Bool)
  | .nl _ => some (true, false)
  | .u (.l _ rows) => some (rows.isEmpty, true)
  | .c _ rows => some (rows.isEmpty, true)
  | .w b => match mg m b with
    | .w _ _ rows => some (rows.isEmpty, true)
    | _ => none
  | .v _ _ _ n _ => some (Nat.beq n 0, true)
  | .sl _ _ n => some (Nat.beq n 0, true)
  | _ => none
def nilSl (P : Program) (m : Mem) (T : TypeId) (x y : V) : Option (Bool × Bool) :=
  match y with
  | .nl _ => match P.underlying T with
    | some (.slice _) => nilOf m x
    | _ => none
  | _ => none
def nilR (op : BinOp) (r : Bool × Bool) (K : Value → Prop) : Prop :=
  match r with
  | (true, false) => nilEq op true K
  | (false, true) => nilEq op false K
  | (true, true) => nilEq op true K ∧ nilEq op false K
  | _ => False
def ltK (c : Bool) (r n : Int) (K : Prop) : Prop := cond c (r = n ∧ K) K
def viewS (P : Program) (t : List V) (e : TypeId) (lo hi mx : Option Operand) (b sz l n : Nat) (c : Bool) (K : V → Prop) : Prop :=
  cond (Nat.beq sz (lay1 P e) && !Nat.beq sz 0) (match mx, bndS t lo 0, bndS t hi n with
    | none, some l', some r => leK lo.isNone 0 l' (l' ≤ r ∧ r ≤ n ∧ ltK c r n (K (.v b sz (l + l'.toNat) (r.toNat - l'.toNat) c)))
    | some mx, some l', some r => match evS t mx with
      | .u (.i _ k) => cond hi.isSome (leK lo.isNone 0 l' (l' ≤ r ∧ r ≤ n ∧ k = r ∧ K (.v b sz (l + l'.toNat) (r.toNat - l'.toNat) true))) False
      | _ => False
    | _, _, _ => False) False
def quietS (P : Program) (t : List V) (m : Mem) (o : Oper) (K : V → Prop) : Prop :=
  match o.op with
  | .move x | .assign x => K (evS t x)
  | .pick c a b => pickS (evS t c) (evS t a) (evS t b) K
  | .nilCheck x => match evS t x with
    | .u (.p p) => oP p fun c => K (.q c 0)
    | .f g a c => K (.f g a c)
    | x => cond (isPtr x) (K x) False
  | .binOp op T x y _ => match nilSl P m T (evS t x) (evS t y) with
    | some r => nilR op r fun v => K (absV v)
    | none => match arrE P T (evS t x) (evS t y) with
      | some c => nilEq op c fun v => K (absV v)
      | none => binS P op T (evS t x) (evS t y) K
  | .unOp op _ x => match conc1 (evS t x) with
    | some a => XWp P (Op.unary op a) fun v => K (absV v)
    | none => False
  | .convert s d x => match conc1 (evS t x) with
    | some a => XWp P (convert s d a) fun v => K (absV v)
    | none => False
  | .makeFunc (.func g) a c => K (.f g (a.toList.map (evS t)) (c.toList.map (evS t)))
  | .fieldAddr T x f => match P.underlying T with
    | some (.struct fs) => match fs[f]? with
      | some fd => nz (lay1 P fd.type) (ptrAdd (evS t x) fd.offset K)
      | none => False
    | _ => False
  | .field T x f => match P.underlying T, evS t x with
    | some (.struct fs), .a l => match fs[f]? with
      | some fd => match layS P fd.type, dropC fd.offset l with
        | some (.one z), some (v :: _) => cond (shOk z v) (K v) False
        | some (.many zs), some l => match prefC zs.length l with
          | some vs => K (.a vs)
          | none => False
        | _, _ => False
      | none => False
    | _, _ => False
  | .indexAddr T x i => match evS t i with
    | .u (.i _ i) => match P.underlying T, asD (evS t x) with
      | some (.slice e), .u (.l s rows) => cond (Nat.beq s (lay1 P e) && !Nat.beq s 0) (elL rows i fun r => K (.q r 0)) False
      | some (.slice e), .c s rows => cond (Nat.beq s (lay1 P e) && !Nat.beq s 0) (elL rows i fun r => K (.q r 0)) False
      | some (.slice e), .w b => match mg m b with
        | .w _ sz rows => cond (Nat.beq sz (lay1 P e) && !Nat.beq sz 0) (0 ≤ i ∧ i < rows.length ∧ K (.e b sz i 0)) False
        | _ => False
      | some (.slice e), .v b sz l n _ => cond (Nat.beq sz (lay1 P e) && !Nat.beq sz 0) (0 ≤ i ∧ i < n ∧ K (.e b sz (l + i) 0)) False
      | some (.slice e), .sl b o n => nz (lay1 P e) (idxK i n fun j => K (.r b (o + j * lay1 P e)))
      | some (.array n e), .e b sz k o => nz (lay1 P e) (idxK i n fun j => K (.e b sz k (o + j * lay1 P e)))
      | some (.array n e), .r b o => match mg m b with
        | .c cells => match dropC o cells with
          | some (.n _ w _ :: _) => cond (Nat.beq w n && Nat.beq (lay1 P e) 1) (0 ≤ i ∧ i < n ∧ K (.g b o w i)) False
          | some _ => match i with
            | .ofNat j => cond (Nat.ble (j + 1) n) (nz (lay1 P e) (K (.r b (o + j * lay1 P e)))) False
            | .negSucc _ => False
          | none => False
        | _ => False
      | some (.array n e), .q c o => nz (lay1 P e) (idxK i n fun j => K (.q c (o + j * lay1 P e)))
      | _, _ => False
    | _ => False
  | .index T x i => match evS t i with
    | .u (.i _ i) => match P.underlying T, evS t x with
      | some .string, .u (.s s) => 0 ≤ i ∧ i < s.size ∧ K (.u (.i .u8 (s.data.getD i.toNat 0).toNat))
      | some (.array n e), .a l => match zerosOf P e, cellU l with
        | some zs, some us => cond (Nat.beq us.length (n * zs.length)) (elL (chunk n zs.length us) i fun r => dUs zs r 0 fun vs => K (oneA P e (vs.map .u))) False
        | _, _ => False
      | _, _ => False
    | _ => False
  | .extract x i => match evS t x with
    | .t l => cond (Nat.ble (i + 1) l.length) (K (vget l i)) False
    | _ => False
  | .build T ps => match P.info? T, P.underlying T with
    | some inf, some (.struct fs) => match inf.zero with
      | some (.agg cs) => cond (allLaid P fs.toList) (match fillC (placeOf P fs.toList) (normC P T (cs.toList.map ofV1)) (ps.toList.map fun p => (p.1, evS t p.2)) with
        | some l => K (.a (normC P T l))
        | none => False) False
      | _ => False
    | some inf, some (.array _ e) => match inf.zero with
      | some (.agg cs) => nz (lay1 P e) (match fillC (fun i => some (i * lay1 P e, lay1 P e)) (fixN (leafs P 9 T) (cs.toList.map ofV1)) (ps.toList.map fun p => (p.1, evS t p.2)) with
        | some l => K (.a (normC P T l))
        | none => False)
      | _ => False
    | _, _ => False
  | .slice T x lo hi mx => match P.underlying T, asD (evS t x) with
    | some .string, .u (.s s) => match mx, bndS t lo 0, bndS t hi s.size with
      | none, some l, some r => leK lo.isNone 0 l (l ≤ r ∧ r ≤ s.size ∧ K (.u (.s (s.extract l.toNat r.toNat))))
      | _, _, _ => False
    | some (.slice e), .u (.l s rows) => cond (Nat.beq s (lay1 P e) && !Nat.beq s 0) (match mx, bndS t lo 0, bndS t hi rows.length with
      | none, some l, some r => leK lo.isNone 0 l (l ≤ r ∧ r ≤ rows.length ∧ K (.u (.l s ((rows.take r.toNat).drop l.toNat))))
      | some mx, some l, some r => match evS t mx with
        | .u (.i _ k) => cond hi.isSome (leK lo.isNone 0 l (l ≤ r ∧ r ≤ rows.length ∧ k = r ∧ K (.c s ((rows.take r.toNat).drop l.toNat)))) False
        | _ => False
      | _, _, _ => False) False
    | some (.slice e), .w b => match mg m b with
      | .w _ sz rows => viewS P t e lo hi mx b sz 0 rows.length false K
      | _ => False
    | some (.slice e), .v b sz l n c => viewS P t e lo hi mx b sz l n c K
    | _, _ => False
  | .load T a => sLoad P T (evS t a) m K
  | .lookup T x k ok => lookS P T (evS t x) (evS t k) ok m K
  | .call c => match c.callee with
    | .builtin .len => match c.args.toList, c.argTypes.toList with
      | [x], [T] => cond (okLen (P.underlying T) (evS t x)) (lenS m (evS t x) fun n => K (.u (.i .i64 n))) False
      | _, _ => False
    | .builtin .min => match argsI t c.args.toList with
      | some vs => XWp P (Builtin.min_ c.argTypes o.type vs.toArray) fun v => K (absV v)
      | none => False
    | .builtin .max => match argsI t c.args.toList with
      | some vs => XWp P (Builtin.max_ c.argTypes o.type vs.toArray) fun v => K (absV v)
      | none => False
    | _ => False
  | _ => False
def inL : List Nat → Nat → Bool
  | [], _ => false
  | x :: l, b => Nat.beq x b || inL l b
def toU (ro : List Nat) (m : Mem) : V → Option (U × Mem)
  | .u x => some (x, m)
  | .c s rows => some (.l s rows, m)
  | .nl s => some (.l s [], m)
  | .q c 0 => some (.p (some c), m)
  | .w b => match mg m b with
    | .w _ sz rows => cond (inL ro b) none (some (.l sz rows, ms m b .x))
    | _ => none
  | _ => none
def toUs (ro : List Nat) : Mem → List V → Option (List U × Mem)
  | m, [] => some ([], m)
  | m, v :: l => match toU ro m v with
    | some (u, m1) => match toUs ro m1 l with
      | some (us, m2) => some (u :: us, m2)
      | none => none
    | none => none
def usp : List U → Nat → List U → List U
  | l, _, [] => l
  | [], _, _ => []
  | _ :: l, 0, v :: vs => v :: usp l 0 vs
  | x :: l, n + 1, v :: vs => x :: usp l n (v :: vs)
def aggOk (P : Program) (T : TypeId) (x : V) : Bool :=
  match layS P T, x with
  | some (.many _), .a _ => true
  | some (.one _), .a _ => false
  | some (.one _), _ => true
  | _, _ => false
def sStore (P : Program) (ro : List Nat) (T : TypeId) (a x : V) (m : Mem) (K : Mem → Prop) : Prop :=
  match zerosOf P T, vcells P T x with
  | some zs, some xs => cond (shL zs xs && aggOk P T (normV P T x)) (match a with
    | .r b o => cond (inL ro b) False (match mg m b with
      | .c cells => match putC xs o cells with
        | some l => K (ms m b (.c l))
        | none => False
      | _ => False)
    | .g b o w k => cond (inL ro b) False (match mg m b, xs with
      | .c cells, [.u (.i .i64 y)] => match dropC o cells with
        | some (.n k' w' l :: _) => cond (Nat.beq w w' && Nat.beq (kindNo k') 3) (match putC [.n .i64 w (l.set k.toNat y)] o cells with
          | some l => K (ms m b (.c l))
          | none => False) False
        | _ => False
      | _, _ => False)
    | .e b sz k o => cond (inL ro b) False (match toUs ro m xs with
      | some (us, m1) => match mg m1 b with
        | .w E sz' rows => cond (Nat.beq sz sz') (cond (Nat.beq o 0 && Nat.beq us.length sz) (K (ms m1 b (.w E sz (rows.set k.toNat us))))
            (cond (Nat.ble (o + us.length) sz) (elL rows k fun r => K (ms m1 b (.w E sz (rows.set k.toNat (usp r o us))))) False)) False
        | _ => False
      | none => False)
    | _ => False) False
  | _, _ => False
def srcS (m : Mem) : V → Option (Nat × List (List U))
  | .u (.l s r) => some (s, r)
  | .c s r => some (s, r)
  | .w b => match mg m b with
    | .w _ s r => some (s, r)
    | _ => none
  | .v b sz l n _ => match mg m b with
    | .w _ s r => cond (Nat.beq s sz) (some (s, (r.drop l).take n)) none
    | _ => none
  | _ => none
def appS (P : Program) (ro : List Nat) (T : TypeId) (x y : V) (m : Mem) (K : V → Mem → Prop) : Prop :=
  match P.underlying T with
  | some (.slice e) => cond (elTyB P T e (lay1 P e)) (match y with
    | .nl _ => (match x with
      | .nl s => K (.nl s) m
      | .u (.l s r) => K (.u (.l s r)) m
      | .c s r => K (.c s r) m
      | .v b sz l n c => K (.v b sz l n c) m
      | _ => False)
    | y => (match srcS m y with
      | some (s, new) => cond (Nat.beq s (lay1 P e)) (match x with
        | .nl _ => apOk [] new ∧ K (.w m.length) (m ++ [.w e s new])
        | .w b => cond (inL ro b) False (match mg m b with
          | .w e' s' rows => cond (Nat.beq e e' && Nat.beq s s') (apOk rows new ∧ K (.w m.length) (ms m b .x ++ [.w e s (rows ++ new)])) False
          | _ => False)
        | .c s' rows => cond (Nat.beq s s') (apOk rows new ∧ match new with
          | _ :: _ => K (.w m.length) (m ++ [.w e s (rows ++ new)])
          | [] => K (.c s rows) m) False
        | .v b s' l n c => cond (Nat.beq s s') (match mg m b with
          | .w e' s2 rows => cond (Nat.beq e e' && Nat.beq s2 s) (match new with
            | [] => K (.v b s' l n c) m
            | _ :: _ => cond c (apOk ((rows.drop l).take n) new ∧ K (.w m.length) (m ++ [.w e s ((rows.drop l).take n ++ new)]))
              (cond (Nat.beq l 0 && !inL ro b) (apOk (rows.take n) new ∧ K (.w m.length) (ms m b .x ++ [.w e s (rows.take n ++ new)])) False)) False
          | _ => False) False
        | _ => False) False
      | none => False)) False
  | _ => False
def rowsOf (P : Program) (ro : List Nat) (e : TypeId) : List (List U) → Mem → List (Nat × V) → Option (List (List U) × Mem)
  | l, m, [] => some (l, m)
  | l, m, (i, v) :: rest => match vcells P e v with
    | some xs => match toUs ro m xs with
      | some (us, m1) => cond (Nat.beq us.length (lay1 P e) && Nat.ble (i + 1) l.length) (rowsOf P ro e (l.set i us) m1 rest) none
      | none => none
    | none => none
def zrow (P : Program) (e : TypeId) : Option (List U) :=
  match (P.info? e).bind (·.zero) with
  | some z => cellU (fixN (leafs P 9 e) (z.cells.toList.map ofV1))
  | none => none
def zcells (P : Program) (e : TypeId) (n : Nat) : Option (List V) :=
  match (P.info? e).bind (·.zero) with
  | some z => cond (Nat.beq z.cells.size (lay1 P e)) (some (List.replicate n (fixN (leafs P 9 e) (z.cells.toList.map ofV1))).flatten) none
  | none => none
def slCells (P : Program) (e : TypeId) (n : Nat) (ps : List (Nat × V)) : Option (List V) :=
  match zcells P e n with
  | some l => fillC (fun i => some (i * lay1 P e, lay1 P e)) l (ps.map fun p => (p.1, normV P e p.2))
  | none => none
def clearS (P : Program) (ro : List Nat) (T : TypeId) (x : V) (m : Mem) (K : Mem → Prop) : Prop :=
  match P.underlying T with
  | some (.slice e) => match x with
    | .v b sz l n _ => cond (!inL ro b && Nat.beq sz (lay1 P e) && !Nat.beq n 0) (match mg m b, zrow P e with
      | .w E s rows, some zr => cond (Nat.beq s sz && Nat.beq zr.length sz) (K (ms m b (.w E s (rows.take l ++ (List.replicate n zr ++ rows.drop (l + n)))))) False
      | _, _ => False) False
    | _ => False
  | _ => False
def mapUpdS (P : Program) (ro : List Nat) (T : TypeId) (x k v : V) (m : Mem) (K : Mem → Prop) : Prop :=
  match mapT P T, mkOf k, x with
  | some (kt, zs, E, _), some k, .m b => cond (kt.has k && !inL ro b) (match vcells P E v with
    | some xs => match toUs ro m xs with
      | some (us, m1) => match mg m1 b with
        | .p kt' sz ag rows => cond (ktEq kt kt' && Nat.beq sz zs.length && (ag == isAg P E) && Nat.beq us.length sz && aggOk P E (normV P E v)) (K (ms m1 b (.p kt' sz ag (rSet rows k us)))) False
        | _ => False
      | none => False
    | none => False) False
  | _, _, _ => False
def mapDelS (P : Program) (ro : List Nat) (T K' : TypeId) (x k : V) (m : Mem) (K : Mem → Prop) : Prop :=
  match P.underlying T, ktOf P K', mkOf k, x with
  | some (.map K1 _), some kt, some k, .m b => cond (Nat.beq K1 K' && kt.has k && !inL ro b) (match mg m b with
    | .p kt' sz ag rows => cond (ktEq kt kt') (K (ms m b (.p kt' sz ag (rDel rows k)))) False
    | _ => False) False
  | some (.map K1 _), some kt, some k, .nm => cond (Nat.beq K1 K' && kt.has k) (K m) False
  | _, _, _, _ => False
abbrev CallH := FuncId → List V → Mem → (V → Mem → Prop) → Prop
def effS (P : Program) (ro : List Nat) (call : CallH) (t : List V) (m : Mem) (o : Oper) (K : V → Mem → Prop) : Prop :=
  match o.op with
  | .store T a x => sStore P ro T (evS t a) (evS t x) m fun m' => K .z m'
  | .box T x => match vcells P T (evS t x) with
    | some xs => K (.r m.length 0) (m ++ [.c xs])
    | none => False
  | .alloc T => match (P.info? T).bind (·.zero) with
    | some z => K (.r m.length 0) (m ++ [.c (match ofV z with | .a l => normC P T l | x => [normV P T x])])
    | none => False
  | .buildSlice T n ps => match P.underlying T with
    | some (.slice e) => match zrow P e with
      | some zr => cond (Nat.ble (n * lay1 P e) 16777216 && !Nat.beq (n * lay1 P e) 0 && Nat.beq zr.length (lay1 P e)) (match rowsOf P ro e (List.replicate n zr) m (ps.toList.map fun p => (p.1, evS t p.2)) with
        | some (rows, m1) => K (.w m1.length) (m1 ++ [.w e (lay1 P e) rows])
        | none => match slCells P e n (ps.toList.map fun p => (p.1, evS t p.2)) with
          | some l => K (.sl m.length 0 n) (m ++ [.c l])
          | none => False) (cond (Nat.beq n 0 && Nat.beq ps.size 0) (K (.c (lay1 P e) []) m) False)
      | none => match slCells P e n (ps.toList.map fun p => (p.1, evS t p.2)) with
          | some l => cond (Nat.ble (n * lay1 P e) 16777216 && !Nat.beq (n * lay1 P e) 0) (K (.sl m.length 0 n) (m ++ [.c l])) False
          | none => False
    | _ => False
  | .makeSlice T l c => match P.underlying T, evS t l, evS t c with
    | some (.slice e), .u (.i .i64 l), .u (.i .i64 c) => match zrow P e with
      | some zr => cond (elTyB P T e (lay1 P e) && Nat.beq zr.length (lay1 P e)) (0 ≤ l ∧ l ≤ 1000000 ∧ c = l ∧ K (.w m.length) (m ++ [.w e (lay1 P e) (List.replicate l.toNat zr)])) False
      | none => False
    | _, _, _ => False
  | .call c => match c.callee with
    | .value f => match evS t f with
      | .f g a cc => call g (a ++ c.args.toList.map (evS t) ++ cc) m K
      | _ => False
    | .builtin .append => match c.args.toList, c.argTypes.toList with
      | [x, y], [T, T'] => cond (Nat.beq T T') (appS P ro T (evS t x) (evS t y) m K) False
      | _, _ => False
    | .builtin .delete => match c.args.toList, c.argTypes.toList with
      | [x, y], [T, T'] => mapDelS P ro T T' (evS t x) (evS t y) m fun m' => K (.t []) m'
      | _, _ => False
    | .builtin .clear => match c.args.toList, c.argTypes.toList with
      | [x], [T] => clearS P ro T (evS t x) m fun m' => K (.t []) m'
      | _, _ => False
    | _ => False
  | .makeMap T none => match mapT P T with
    | some (kt, zs, E, _) => K (.m m.length) (m ++ [.p kt zs.length (isAg P E) []])
    | none => False
  | .mapUpdate T x k v => mapUpdS P ro T (evS t x) (evS t k) (evS t v) m fun m' => K .z m'
  | _ => False
def numRow (x : Int) : List U := [.i .i64 x]
def cutS (P : Program) (ro : List Nat) (t : List V) (m : Mem) (o : Oper) (K : V → Mem → Prop) : Option Prop :=
  match o.op with
  | .slice T x lo hi none => match evS t x with
    | .w b => match P.underlying T, mg m b with
      | some (.slice e), .w E sz rows => match bndS t lo 0, bndS t hi rows.length with
        | some l, some r => some (cond (inL ro b || !(Nat.beq sz (lay1 P e) && !Nat.beq sz 0)) False (match lo with
          | none => 0 ≤ r ∧ r ≤ rows.length ∧ K (.w m.length) (ms m b .x ++ [.w E sz (rows.take r.toNat)])
          | some _ => 0 ≤ l ∧ l ≤ r ∧ r ≤ rows.length ∧ K (.u (.l sz ((rows.take r.toNat).drop l.toNat))) (ms m b .x)))
        | _, _ => some False
      | _, _ => some False
    | .r b 0 => match lo, hi, mg m b with
      | none, none, .c [.n k w xs] => match P.underlying T with
        | some (.array n e) => some (cond (!inL ro b && Nat.beq n w && Nat.beq (lay1 P e) 1 && Nat.beq (kindNo k) 3) (K (.u (.l 1 (xs.map numRow))) (ms m b .x)) False)
        | some (.pointer A) => match P.underlying A with
          | some (.array n e) => some (cond (!inL ro b && Nat.beq n w && Nat.beq (lay1 P e) 1 && Nat.beq (kindNo k) 3) (K (.u (.l 1 (xs.map numRow))) (ms m b .x)) False)
          | _ => some False
        | _ => some False
      | _, _, _ => some False
    | _ => none
  | _ => none
def quietB (o : Oper) : Bool := pureOp o || readOp o
def opS (P : Program) (vw : Bool) (ro : List Nat) (call : CallH) (t : List V) (m : Mem) (o : Oper) (K : V → Mem → Prop) : Prop :=
  match cond vw none (cutS P ro t m o K) with
  | some p => p
  | none => cond (quietB o) (quietS P t m o fun v => K v m) (effS P ro call t m o K)
def guardS (ops : List Oper) (o : Oper) (t : List V) (A B : List V → Prop) : Prop :=
  match guardSlot ops o with
  | none => A t
  | some (none, _) => B t
  | some (some d, want) =>
    match vget t d with
    | .u (.b c) => cond c (cond want (A (vset t d (.u (.b true)))) (B (vset t d (.u (.b true))))) (cond want (B (vset t d (.u (.b false)))) (A (vset t d (.u (.b false)))))
    | .t [] => B t
    | _ => False
mutual
def refsV : V → List Nat
  | .r b _ => [b]
  | .e b _ _ _ => [b]
  | .g b _ _ _ => [b]
  | .w b => [b]
  | .m b => [b]
  | .y b => [b]
  | .v b _ _ _ _ => [b]
  | .sl b _ _ => [b]
  | .f _ a c => refsL a ++ refsL c
  | .a l => refsL l
  | .t l => refsL l
  | _ => []
def refsL : List V → List Nat
  | [] => []
  | v :: l => refsV v ++ refsL l
end
def refsA : AB → List Nat
  | .c l => refsL l
  | _ => []
def clo (m : Mem) : Nat → List Nat → List Nat → List Nat
  | 0, _, acc => acc
  | _ + 1, [], acc => acc
  | n + 1, b :: todo, acc => cond (inL acc b) (clo m n todo acc) (clo m n (refsA (mg m b) ++ todo) (acc ++ [b]))
def srcOf (t : List V) (o : Oper) : List Nat := refsL (o.op.operands.toList.map (evS t))
def heldB (ops : List Oper) (e : Nat) : List (Nat × List Nat) → List Nat
  | [] => []
  | (i, bs) :: l => cond (waits ops ops.length i e) (heldB ops e l) (bs ++ heldB ops e l)
def drawS (P : Program) (ro hr : List Nat) (call : List Nat → CallH) (ops : List Oper) (K : List V → Mem → Prop) : Nat → List Nat → List (Nat × List Nat) → List V → Mem → Prop
  | 0, _, _, t, m => K t m
  | n + 1, done, held, t, m =>
    match nextQ ops done with
    | some i =>
      match ops[i]? with
      | none => False
      | some o => guardS ops o t
          (fun t => quietS P t m o fun v => drawS P ro hr call ops K n (i :: done) (cond (pureOp o) held ((i, srcOf t o) :: held)) (vput t o.dst v) m)
          (fun t => drawS P ro hr call ops K n (i :: done) held (vput t o.dst (.t [])) m)
    | none => conjL (readies ops done) fun i =>
      match ops[i]? with
      | none => False
      | some o => guardS ops o t
          (fun t => effS P (heldB ops i held ++ hr ++ ro) (call (heldB ops i held ++ hr)) t m o fun v m' => drawS P ro hr call ops K n (i :: done) held (vput t o.dst v) m')
          (fun t => drawS P ro hr call ops K n (i :: done) held (vput t o.dst (.t [])) m)
def yieldOf (t : List V) (o : Oper) : Option (Nat × List V) :=
  match o.op with
  | .call c => match c.callee with
    | .value f => match evS t f with
      | .y b => some (b, c.args.toList.map (evS t))
      | _ => none
    | _ => none
  | _ => none
def opsSY (P : Program) (vw : Bool) (ro : List Nat) (call : CallH) (yh : Nat → List V → Mem → (V → Mem → Prop) → Prop) (ops : List Oper) (K : List V → Mem → Prop) : List Oper → List V → Mem → Prop
  | [], t, m => K t m
  | o :: rest, t, m => guardS ops o t (fun t => match yieldOf t o with
      | some (b, args) => yh b args m fun v m' => opsSY P vw ro call yh ops K rest (vput t o.dst v) m'
      | none => opS P vw ro call t m o fun v m' => opsSY P vw ro call yh ops K rest (vput t o.dst v) m')
    (fun t => opsSY P vw ro call yh ops K rest (vput t o.dst (.t [])) m)
inductive Pt where
  | i (k : IntKind) | b | s | l (s : Nat) | p | n (w : Nat) | ow (E sz : Nat) | w (j : Nat) | r (j o : Nat) | m (j : Nat) | nm | z | A | X | row (E sz : Nat) | mp (kt : KT) (sz : Nat) (ag : Bool)
inductive It where
  | v (y : V)
  | e (y : AB)
def Pt.Fn (X : Type) : Pt → Type
  | .i _ => Int → X
  | .b => Bool → X
  | .s => ByteArray → X
  | .l _ => List (List U) → X
  | .p => Option (List U) → X
  | .n _ => List Int → X
  | .ow _ _ => List (List U) → X
  | .row _ _ => List (List U) → X
  | .A => Ob → X
  | .mp .. => List (MK × List U) → X
  | _ => X
def Pt.lam {X : Type} : (y : Pt) → (It → X) → y.Fn X
  | .i k, K => fun n => K (.v (.u (.i k n)))
  | .b, K => fun n => K (.v (.u (.b n)))
  | .s, K => fun n => K (.v (.u (.s n)))
  | .l sz, K => fun n => K (.v (.u (.l sz n)))
  | .p, K => fun n => K (.v (.u (.p n)))
  | .n nw, K => fun n => K (.v (.n .i64 nw n))
  | .ow E sz, K => fun n => K (.e (.w E sz n))
  | .row E sz, K => fun n => K (.e (.w E sz n))
  | .A, K => fun n => K (.e (.o n))
  | .mp kt sz ag, K => fun n => K (.e (.p kt sz ag n))
  | .w j, K => K (.v (.w j))
  | .r j o, K => K (.v (.r j o))
  | .m j, K => K (.v (.m j))
  | .nm, K => K (.v .nm)
  | .z, K => K (.v .z)
  | .X, K => K (.e .x)
def Pt.zip {X Y Z : Type} : (y : Pt) → y.Fn X → y.Fn Y → (X → Y → Z) → y.Fn Z
  | .i _, f, g, K => fun n => K (f n) (g n)
  | .b, f, g, K => fun n => K (f n) (g n)
  | .s, f, g, K => fun n => K (f n) (g n)
  | .l _, f, g, K => fun n => K (f n) (g n)
  | .p, f, g, K => fun n => K (f n) (g n)
  | .n _, f, g, K => fun n => K (f n) (g n)
  | .ow _ _, f, g, K => fun n => K (f n) (g n)
  | .row _ _, f, g, K => fun n => K (f n) (g n)
  | .A, f, g, K => fun n => K (f n) (g n)
  | .mp .., f, g, K => fun n => K (f n) (g n)
  | .w _, f, g, K => K f g
  | .r _ _, f, g, K => K f g
  | .m _, f, g, K => K f g
  | .nm, f, g, K => K f g
  | .z, f, g, K => K f g
  | .X, f, g, K => K f g
def Pt.all {X : Type} : (y : Pt) → y.Fn X → (X → Prop) → Prop
  | .i _, f, K => ∀ n : Int, K (f n)
  | .b, f, K => ∀ n : Bool, K (f n)
  | .s, f, K => ∀ n : ByteArray, K (f n)
  | .l _, f, K => ∀ n : List (List U), K (f n)
  | .p, f, K => ∀ n : Option (List U), K (f n)
  | .n _, f, K => ∀ n : List Int, K (f n)
  | .ow _ _, f, K => ∀ n : List (List U), K (f n)
  | .row _ _, f, K => ∀ n : List (List U), K (f n)
  | .A, f, K => ∀ n : Ob, K (f n)
  | .mp .., f, K => ∀ n : List (MK × List U), K (f n)
  | .w _, f, K => K f
  | .r _ _, f, K => K f
  | .m _, f, K => K f
  | .nm, f, K => K f
  | .z, f, K => K f
  | .X, f, K => K f
def PtT (R : Type) : List Pt → Type
  | [] => R
  | y :: l => y.Fn (PtT R l)
def Pt.app {X : Type} : (y : Pt) → y.Fn X → It → Option X
  | .i _, F, .v (.u (.i _ nn)) => some (F nn)
  | .b, F, .v (.u (.b nn)) => some (F nn)
  | .s, F, .v (.u (.s nn)) => some (F nn)
  | .l _, F, .v (.u (.l _ nn)) => some (F nn)
  | .p, F, .v (.u (.p nn)) => some (F nn)
  | .n _, F, .v (.n _ _ nn) => some (F nn)
  | .ow _ _, F, .e (.w _ _ nn) => some (F nn)
  | .row _ _, F, .e (.w _ _ nn) => some (F nn)
  | .A, F, .e (.o nn) => some (F nn)
  | .mp .., F, .e (.p _ _ _ nn) => some (F nn)
  | .w _, F, _ => some F
  | .r _ _, F, _ => some F
  | .m _, F, _ => some F
  | .nm, F, _ => some F
  | .z, F, _ => some F
  | .X, F, _ => some F
  | _, _, _ => none
def apP {R : Type} (d : R) : (ps : List Pt) → PtT R ps → List It → R
  | [], F, _ => F
  | _ :: _, _, [] => d
  | y :: ps, F, i :: is => match y.app F i with
    | some G => apP d ps G is
    | none => d
def pk1 (lim : Nat) (m : Mem) : Pt → V → Option (It × Mem)
  | .i k, .u (.i k' n) => cond (Nat.beq (kindNo k) (kindNo k')) (some (.v (.u (.i k n)), m)) none
  | .b, .u (.b c) => some (.v (.u (.b c)), m)
  | .s, .u (.s c) => some (.v (.u (.s c)), m)
  | .l sz, .u (.l sz' c) => cond (Nat.beq sz sz') (some (.v (.u (.l sz c)), m)) none
  | .l sz, .c sz' c => cond (Nat.beq sz sz') (some (.v (.u (.l sz c)), m)) none
  | .l sz, .nl _ => some (.v (.u (.l sz [])), m)
  | .p, .u (.p c) => some (.v (.u (.p c)), m)
  | .p, .q c 0 => some (.v (.u (.p (some c))), m)
  | .n nw, .n k w' c => cond (Nat.beq nw w' && Nat.beq (kindNo k) 3) (some (.v (.n .i64 nw c), m)) none
  | .ow E sz, .w j => match mg m j with
    | .w E' sz' rows => cond (Nat.beq E E' && Nat.beq sz sz') (some (.e (.w E sz rows), ms m j .x)) none
    | _ => none
  | .ow E sz, .nl _ => some (.e (.w E sz []), m)
  | .w j, .w j' => cond (Nat.beq j j' && Nat.ble (j + 1) lim) (some (.v (.w j), m)) none
  | .r j o, .r j' o' => cond (Nat.beq j j' && Nat.beq o o' && Nat.ble (j + 1) lim) (some (.v (.r j o), m)) none
  | .m j, .m j' => cond (Nat.beq j j' && Nat.ble (j + 1) lim) (some (.v (.m j), m)) none
  | .nm, .nm => some (.v .nm, m)
  | .z, .n .. => none
  | .z, _ => some (.v .z, m)
  | _, _ => none
def pkV (lim : Nat) (m : Mem) : List Pt → List V → Option (List It × Mem)
  | [], [] => some ([], m)
  | y :: ps, x :: xs => match pk1 lim m y x with
    | some (o, m1) => match pkV lim m1 ps xs with
      | some (os, m2) => some (o :: os, m2)
      | none => none
    | none => none
  | _, _ => none
inductive BP where
  | A | X | row (E sz : Nat) | mp (kt : KT) (sz : Nat) (ag : Bool) | c (ps : List Pt)
def BP.ps : BP → List Pt
  | .A => [.A]
  | .X => [.X]
  | .row E sz => [.row E sz]
  | .mp kt sz ag => [.mp kt sz ag]
  | .c ps => ps
def pkB1 (lim : Nat) (m : Mem) : BP → Nat → Option (List It × Mem)
  | .A, j => match mg m j with
    | .o I => some ([.e (.o I)], ms m j .x)
    | _ => none
  | .X, j => some ([.e .x], ms m j .x)
  | .row E sz, j => match mg m j with
    | .w E' sz' rows => cond (Nat.beq E E' && Nat.beq sz sz') (some ([.e (.w E sz rows)], ms m j .x)) none
    | _ => none
  | .mp kt sz ag, j => match mg m j with
    | .p kt' sz' ag' rows => cond (ktEq kt kt' && Nat.beq sz sz' && (ag == ag')) (some ([.e (.p kt sz ag rows)], ms m j .x)) none
    | _ => none
  | .c ps, j => match mg m j with
    | .c l => pkV lim (ms m j .x) ps l
    | _ => none
def pkB (lim : Nat) (m : Mem) : List BP → List Nat → Option (List It × Mem)
  | [], [] => some ([], m)
  | y :: ps, j :: js => match pkB1 lim m y j with
    | some (o, m1) => match pkB lim m1 ps js with
      | some (os, m2) => some (o ++ os, m2)
      | none => none
    | none => none
  | _, _ => none
inductive RP where
  | one (y : Pt) | agg (ps : List Pt)
def RP.ps : RP → List Pt
  | .one y => [y]
  | .agg ps => ps
def pkR (lim : Nat) (m : Mem) : List RP → List V → Option (List It × Mem)
  | [], [] => some ([], m)
  | .one y :: ps, x :: xs => match pkV lim m [y] [x] with
    | some (o, m1) => match pkR lim m1 ps xs with
      | some (os, m2) => some (o ++ os, m2)
      | none => none
    | none => none
  | .agg qs :: ps, .a l :: xs => match pkV lim m qs l with
    | some (o, m1) => match pkR lim m1 ps xs with
      | some (os, m2) => some (o ++ os, m2)
      | none => none
    | none => none
  | _, _ => none
def mkP {R : Type} : (ps : List Pt) → (List It → R) → PtT R ps
  | [], K => K []
  | y :: ps, K => y.lam fun i => mkP ps fun is => K (i :: is)
def zipP {X Y Z : Type} (F : X → Y → Z) : (ps : List Pt) → PtT X ps → PtT Y ps → PtT Z ps
  | [], a, b => F a b
  | y :: ps, a, b => y.zip a b (zipP F ps)
def allP : (ps : List Pt) → PtT Prop ps → Prop
  | [], a => a
  | y :: ps, a => y.all a (allP ps)
mutual
def renV (f : Nat → Nat) : V → V
  | .r b o => .r (f b) o
  | .e b s k o => .e (f b) s k o
  | .g b o w k => .g (f b) o w k
  | .w b => .w (f b)
  | .m b => .m (f b)
  | .y b => .y (f b)
  | .v b sz l n c => .v (f b) sz l n c
  | .sl b o n => .sl (f b) o n
  | .f g a c => .f g (renL f a) (renL f c)
  | .a l => .a (renL f l)
  | .t l => .t (renL f l)
  | .u x => .u x
  | .q c o => .q c o
  | .c s r => .c s r
  | .nm => .nm
  | .nl s => .nl s
  | .n k w l => .n k w l
  | .z => .z
def renL (f : Nat → Nat) : List V → List V
  | [] => []
  | v :: l => renV f v :: renL f l
end
def renA (f : Nat → Nat) : AB → AB
  | .c l => .c (renL f l)
  | a => a
def itV (f : Nat → Nat) (m : Mem) : It → V × Mem
  | .v x => (renV f x, m)
  | .e ab => (.w m.length, m ++ [ab])
def itVs (f : Nat → Nat) : Mem → Nat → List It → List V × List It × Mem
  | m, 0, is => ([], is, m)
  | m, _ + 1, [] => ([], [], m)
  | m, n + 1, i :: is => ((itV f m i).1 :: (itVs f (itV f m i).2 n is).1, (itVs f (itV f m i).2 n is).2.1, (itVs f (itV f m i).2 n is).2.2)
def reR (f : Nat → Nat) : Mem → List RP → List It → List V × List It × Mem
  | m, [], is => ([], is, m)
  | m, .one _ :: ps, is => ((itVs f m 1 is).1 ++ (reR f (itVs f m 1 is).2.2 ps (itVs f m 1 is).2.1).1, (reR f (itVs f m 1 is).2.2 ps (itVs f m 1 is).2.1).2)
  | m, .agg qs :: ps, is => (.a (itVs f m qs.length is).1 :: (reR f (itVs f m qs.length is).2.2 ps (itVs f m qs.length is).2.1).1, (reR f (itVs f m qs.length is).2.2 ps (itVs f m qs.length is).2.1).2)
def reB (f : Nat → Nat) : Mem → List BP → List Nat → List It → Mem
  | m, .c qs :: ps, b :: bs, is => reB f (ms (itVs f m qs.length is).2.2 b (.c (itVs f m qs.length is).1)) ps bs (itVs f m qs.length is).2.1
  | m, _ :: ps, b :: bs, .e ab :: is => reB f (ms m b ab) ps bs is
  | m, _, _, _ => m
structure Hint where
  sl : List (Nat × RP)
  bl : List (Nat × BP)
def Hint.ps (h : Hint) : List Pt := (h.sl.map (·.2)).flatMap RP.ps ++ (h.bl.map (·.2)).flatMap BP.ps
def Hint.pk (h : Hint) (lim : Nat) (t : List V) (m : Mem) : Option (List It × Mem) :=
  match pkR lim m (h.sl.map (·.2)) (h.sl.map fun p => vget t p.1) with
  | some (os, m1) => match pkB lim m1 (h.bl.map (·.2)) (h.bl.map (·.1)) with
    | some (os2, m2) => some (os ++ os2, m2)
    | none => none
  | none => none
def tkV : List Pt → List V → List Nat
  | .ow _ _ :: ps, .w j :: xs => j :: tkV ps xs
  | _ :: ps, _ :: xs => tkV ps xs
  | _, _ => []
def tkR : List RP → List V → List Nat
  | .one y :: ps, x :: xs => tkV [y] [x] ++ tkR ps xs
  | .agg qs :: ps, .a l :: xs => tkV qs l ++ tkR ps xs
  | _ :: ps, _ :: xs => tkR ps xs
  | _, _ => []
def tkB (m : Mem) : BP → Nat → List Nat
  | .c ps, j => match mg m j with
    | .c l => j :: tkV ps l
    | _ => [j]
  | _, j => [j]
def Hint.tk (h : Hint) (t : List V) (m : Mem) : List Nat := tkR (h.sl.map (·.2)) (h.sl.map fun p => vget t p.1) ++ h.bl.flatMap fun p => tkB m p.2 p.1
def killM : Mem → List Nat → Mem
  | m, [] => m
  | m, b :: bs => killM (ms m b .x) bs
def Hint.base (h : Hint) (t : List V) (m : Mem) : Mem := killM m (h.tk t m)
def aliveB : Mem → Mem → Bool
  | [], _ => true
  | .x :: l, _ :: r => aliveB l r
  | _ :: _, .x :: _ => false
  | _ :: l, _ :: r => aliveB l r
  | _ :: _, [] => false
def Hint.el (h : Hint) (m0 : Mem) (F : PtT Prop h.ps) (t : List V) (m : Mem) : Prop :=
  match h.pk m0.length t m with
  | some (os, m1) => cond (aliveB m0 m1) (apP False h.ps F os) False
  | none => False
def havoc (md : List Nat) : List V → Nat → List V
  | [], _ => []
  | v :: l, k => cond (md.contains k) .z v :: havoc md l (k + 1)
def setS : List V → List (Nat × RP) → List V → List V
  | t, p :: ps, v :: vs => setS (vset t p.1 v) ps vs
  | t, _, _ => t
def roOf : Mem → Nat → List Nat
  | [], _ => []
  | .x :: l, k => roOf l (k + 1)
  | _ :: l, k => k :: roOf l (k + 1)
def Hint.st (h : Hint) (md : List Nat) (t : List V) (m : Mem) (is : List It) : List V × Mem :=
  (setS (havoc md t 0) h.sl (reR id (h.base t m) (h.sl.map (·.2)) is).1, reB id (reR id (h.base t m) (h.sl.map (·.2)) is).2.2 (h.bl.map (·.2)) (h.bl.map (·.1)) (reR id (h.base t m) (h.sl.map (·.2)) is).2.1)
end Go.Proofs.YtalglagdgabafaaGreat

/- The engine, part p: from the walk to the fenced walk; marks; small facts of ranges over functions. -/
set_option linter.unusedVariables false
namespace Go.Proofs.YtalglagdgabafaaGreat
open Go
abbrev FW (r : Option Nat) : Fence := { Fence.wide with round := r }
def isDefer (o : Oper) : Bool := match o.op with | .defer _ => true | _ => false
def exitsOf : Code → List Ex
  | .ret => [.ret]
  | .exit i => [.ext i]
  | .seq x y => exitsOf x ++ exitsOf y
  | .cond _ x y => exitsOf x ++ exitsOf y
  | .block i c => (exitsOf c).filter fun e => match e with | .ext j => !Nat.beq i j | _ => true
  | .loop c => exitsOf c
  | .scope c => exitsOf c
  | _ => []
section
variable {P : Program}
theorem callsIn_of {r : Option Nat} {n : Nat} {f : FuncId} {args : Array Value} {w : World} {R : Ending → World → Prop} (h : Calls P f args w R) : CallsIn (FW r) n P f args w R :=
  (callsIn_wide (n := n)).2 h
theorem rowsIn_of {r : Option Nat} {n : Nat} {row : String} {args : Array Value} {w : World} {R : Value → World → Prop} (h : Rows P row args w R) : RowsIn (FW r) n P row args w R :=
  fun c cs _ => let ⟨v, w', hR, hs⟩ := h c cs; ⟨v, w', hR, stepsIn_wide.2 hs⟩
def Dm (ds : List Deferred) (K : Act → World → Prop) : Act → World → Prop := fun a w => ∃ a0, K a0 w ∧ a = { a0 with defers := a0.defers ++ ds }
def DmQ (ds : List Deferred) (Q : Exit → Act → World → Prop) : Exit → Act → World → Prop := fun e a w => ∃ a0, Q e a0 w ∧ a = { a0 with defers := a0.defers ++ ds }
theorem put_dm (a : Act) (ds : List Deferred) (d : Option Tmp) (v : Value) : ({ a with defers := a.defers ++ ds } : Act).put d v = { a.put d v with defers := (a.put d v).defers ++ ds } := by
  cases d <;> rfl
theorem op_in {o : Oper} {a : Act} {w : World} {K : Act → World → Prop} {Q : Exit → Act → World → Prop} {r : Option Nat} {n : Nat} {ds : List Deferred} (hd : isDefer o = false) (hQ : ¬ LetsOut Q) (h : o.wp P a w K Q) :
    o.wpIn (FW r) n P { a with defers := a.defers ++ ds } w (Dm ds K) (DmQ ds Q) := by
  have hd' : ∀ c, o.op ≠ .defer c := fun c e => by unfold isDefer at hd; rw [e] at hd; cases hd
  refine ⟨fun _ _ => trivial, ?_⟩
  rw [Oper.semAt_eq _ _ _ hd']
  have he : ({ a with defers := a.defers ++ ds } : Act).eval = a.eval := by funext x; cases x <;> rfl
  rw [he]
  unfold Oper.wp at h
  generalize hres : (execOp a.eval o).run P w = res at h ⊢
  cases res with
  | ok nx w' =>
    cases nx <;> simp only [Oper.upon, Oper.uponIn] at h ⊢ <;> try exact h.elim
    case value v => exact ⟨_, h, put_dm _ _ _ _⟩
    case skip => exact ⟨_, h, put_dm _ _ _ _⟩
    case enter f args =>
      refine ⟨fun hh => (by cases hh), callsIn_of (h.mono fun e w'' he => ?_)⟩
      cases e with
      | returned v => exact ⟨_, he, put_dm _ _ _ _⟩
      | panicked c => exact ⟨_, he, rfl⟩
      | outgrown => exact absurd he hQ
    case row row args => exact ⟨fun hh => (by cases hh), rowsIn_of (Rows.mono h fun v w'' he => ⟨_, he, put_dm _ _ _ _⟩)⟩
    case defer d => exact ⟨_, h, put_dm { a with defers := d :: a.defers } ds _ _⟩
  | halt x w' =>
    cases x <;> simp only [Oper.upon, Oper.uponIn] at h ⊢ <;> try exact h.elim
    case panic v => exact ⟨_, h, rfl⟩
theorem any_in {ops : Array Oper} {Q : Exit → Act → World → Prop} {r : Option Nat} {n : Nat} {ds : List Deferred} (hd : ∀ o ∈ ops.toList, isDefer o = false) (hQ : ¬ LetsOut Q) : ∀ (fuel : Nat) (listed : Array Bool) (a : Act) (w : World),
    wpAny P .any ops Q fuel listed a w → wpAnyIn (FW r) n P .any ops (DmQ ds Q) fuel listed { a with defers := a.defers ++ ds } w
  | 0, listed, a, w, h => ⟨h.1, _, h.2, rfl⟩
  | fuel + 1, listed, a, w, h => by
    refine ⟨fun hr => ⟨_, h.1 hr, rfl⟩, fun i hi => ?_⟩
    have h1 := h.2 i hi
    unfold wpOp at h1
    unfold wpOpIn
    cases ho : ops[i]? with
    | none => rw [ho] at h1; exact any_in hd hQ fuel _ a w h1
    | some o =>
      rw [ho] at h1
      simp only at h1 ⊢
      split
      · rename_i hw
        rw [if_pos hw] at h1
        have hom : o ∈ ops.toList := by simpa using Array.mem_of_getElem? ho
        rcases h1 with h1 | ⟨-, h1⟩
        · refine Oper.wpIn_mono (fun a' w' hh => ?_) (op_in (ds := ds) (hd o hom) hQ h1)
          obtain ⟨a0, h2, rfl⟩ := hh
          exact any_in hd hQ fuel _ a0 w' h2
        · exact absurd h1 hQ
      · rename_i hw
        rw [if_neg hw] at h1
        refine ⟨fun _ _ => trivial, ?_⟩
        rw [put_dm]
        exact any_in hd hQ fuel _ _ w h1
theorem opq_mono {Qa Qb : Exit → Act → World → Prop} {r : Option Nat} {n : Nat} (hq : ∀ e a w, Qa e a w → Qb e a w) {o : Oper} {a1 : Act} {w1 : World} {K : Act → World → Prop} (h : o.wpIn (FW r) n P a1 w1 K Qa) : o.wpIn (FW r) n P a1 w1 K Qb := by
  refine ⟨h.1, ?_⟩
  have h4 := h.2
  generalize (Oper.semAt (FW r).round a1.eval o).run P w1 = res at h4 ⊢
  cases res with
  | ok nx w' =>
    cases nx <;> simp only [Oper.uponIn] at h4 ⊢ <;> try exact h4
    case enter f args =>
      refine ⟨h4.1, h4.2.mono fun e w'' he => ?_⟩
      cases e with
      | returned v => exact he
      | panicked c => exact hq _ _ _ he
      | outgrown => obtain ⟨a2, w2, h⟩ := he; exact ⟨a2, w2, hq _ _ _ h⟩
    case round l f tmps assign body =>
      refine ⟨h4.1, RoundIn.mono h4.2 fun e w'' he => ?_⟩
      cases e with
      | returned v => exact he
      | panicked c => exact hq _ _ _ he
      | outgrown => obtain ⟨a2, w2, h⟩ := he; exact ⟨a2, w2, hq _ _ _ h⟩
  | halt x w' =>
    cases x <;> simp only [Oper.uponIn] at h4 ⊢ <;> try exact h4
    case panic v => exact hq _ _ _ h4
theorem anyq_mono {Qa Qb : Exit → Act → World → Prop} {r : Option Nat} {n : Nat} {ops : Array Oper} (hq : ∀ e a w, Qa e a w → Qb e a w) : ∀ (fuel : Nat) (listed : Array Bool) (a1 : Act) (w1 : World), wpAnyIn (FW r) n P .any ops Qa fuel listed a1 w1 → wpAnyIn (FW r) n P .any ops Qb fuel listed a1 w1 := by
  intro fuel
  induction fuel with
  | zero => intro listed a1 w1 h; exact ⟨h.1, hq _ _ _ h.2⟩
  | succ fuel ih =>
    intro listed a1 w1 h
    refine ⟨fun hr => hq _ _ _ (h.1 hr), fun i hi => ?_⟩
    have := h.2 i hi
    unfold wpOpIn at this ⊢
    split
    · rename_i ho; rw [ho] at this; exact ih _ _ _ this
    · rename_i o ho
      rw [ho] at this
      simp only at this
      split
      · rename_i hw; rw [if_pos hw] at this; exact Oper.wpIn_mono (fun a' w' hh => ih _ _ _ hh) (opq_mono hq this)
      · rename_i hw; rw [if_neg hw] at this; exact ⟨this.1, ih _ _ _ this.2⟩
theorem op_in0 {o : Oper} {a : Act} {w : World} {K : Act → World → Prop} {Q : Exit → Act → World → Prop} {r : Option Nat} {n : Nat} (hd : isDefer o = false) (h : o.wp P a w K (fun _ _ _ => False)) : o.wpIn (FW r) n P a w K Q := by
  have h2 := op_in (r := r) (n := n) (ds := []) hd (fun ⟨_, _, h⟩ => h) h
  rw [List.append_nil] at h2
  exact Oper.wpIn_mono (fun a' w' hh => by
    obtain ⟨a0, hK, rfl⟩ := hh
    rw [List.append_nil]; exact hK) (opq_mono (fun e a w hq => by obtain ⟨_, h, _⟩ := hq; exact h.elim) h2)
def mark (D : Nat) : Deferred := { target := .collected D, args := #[] }
theorem stepR_scope' {b : Frame} {a : Act} {k : List Item} {cs : List Frame} {w : World} {c : Code} : step P (lone (b.atR a (.code (.scope c) :: k)) cs w) = .next (lone (b.atR a (.code c :: .inScope c :: k)) cs w) :=
  step_lone_go (by simp [stepG, stepG.exec, Frame.atR])
theorem stepR_inScope' {b : Frame} {a : Act} {k : List Item} {cs : List Frame} {w : World} {c : Code} : step P (lone (b.atR a (.inScope c :: k)) cs w) = .next (lone (b.atR a k) cs w) :=
  step_lone_go (by simp [stepG, stepG.exec, Frame.atR])
theorem wpIn_scope {F : Fence} {n : Nat} {c : Code} {Q : Exit → Act → World → Prop} {a : Act} {w : World} (h : c.wpIn F n P (Exit.noGoto Q) a w) : (Code.scope c).wpIn F n P Q a w := by
  intro b k cs hro hb hr
  have h0 : (lone (b.atR a (.code (.scope c) :: k)) cs w).fenced P F := fenced_calm hb hr rfl
  obtain ⟨e, a₁, w₁, hq, harr⟩ := h b (.inScope c :: k) cs hro hb hr
  cases e with
  | normal => exact ⟨.normal, a₁, w₁, hq, .head h0 stepR_scope' (StepsIn.trans harr (.one (fenced_calm hb hr rfl) stepR_inScope'))⟩
  | exit id' =>
    have hx : exitTo id' (.inScope c :: k) = exitTo id' k := by simp [exitTo]
    exact ⟨.exit id', a₁, w₁, hq, fun k' hk => .head h0 stepR_scope' (harr.1 k' (by rw [hx]; exact hk)),
      fun hr' hk => let ⟨k₁, h1, h2⟩ := harr.2 hr' (by rw [hx]; exact hk); ⟨k₁, h1, .head h0 stepR_scope' h2⟩⟩
  | goto l => exact hq.elim
  | ret => exact ⟨_, a₁, w₁, hq, .of_steps (.one h0 stepR_scope') harr⟩
  | panic ch => exact ⟨_, a₁, w₁, hq, .of_steps (.one h0 stepR_scope') harr⟩
  | outgrown => exact ⟨_, a₁, w₁, hq, .of_steps (.one h0 stepR_scope') harr⟩
theorem lset_set : ∀ (l : List Value) (n : Nat) (v : Value), lset l n v = l.set n v
  | [], _, _ => rfl
  | _ :: _, 0, _ => rfl
  | x :: l, n + 1, v => by simp only [lset, List.set_cons_succ, lset_set l n v]
theorem setAll_fold : ∀ (ps : List Tmp) (as' : List Value) (t : Array Value), ((ps.zip as').foldl (fun (tmps : Array Value) (x : Tmp × Value) => tmps.setIfInBounds x.1 x.2) t).toList = setAll t.toList ps as'
  | [], as', t => by cases as' <;> rfl
  | p :: ps, [], t => by simp [setAll]
  | p :: ps, v :: as', t => by
    rw [List.zip_cons_cons, List.foldl_cons, setAll_fold ps as']
    simp only [setAll, lset_set, Array.toList_setIfInBounds]
theorem Same.put (w : World) (r : Nat) (o : Obj) : Same w (w.putObj r o) := ⟨rfl, rfl, rfl, Nat.le_refl _⟩
theorem Same.alloc (w : World) (o : Obj) : Same w (w.alloc o) := ⟨rfl, rfl, rfl, Nat.le_refl _⟩
end
end Go.Proofs.YtalglagdgabafaaGreat

/- The symbolic engine, part b: what abstract values stand for; calls; code. -/
set_option linter.unusedVariables false
namespace Go.Proofs.YtalglagdgabafaaGreat
open Go
structure Loc where
  b : Nat
  a : Option Addr
  n : Nat
  c : Nat
  o : Option Obj
mutual
inductive Rp (D : Fz) (ρ : List Loc) : Value → V → Prop
  | u {v : Value} {x : U} : Rd D v x → Rp D ρ v (.u x)
  | r {b o : Nat} {L : Loc} : ρ[b]? = some L → Rp D ρ (.pointer (some ⟨L.b, o, none⟩)) (.r b o)
  | e {b sz o p q : Nat} {k : Int} {L : Loc} : ρ[b]? = some L → L.a = some ⟨p, q, none⟩ → 0 ≤ k → k < L.n → Rp D ρ (.pointer (some ⟨p, q + k.toNat * sz + o, none⟩)) (.e b sz k o)
  | g {b o w : Nat} {k : Int} {L : Loc} : ρ[b]? = some L → 0 ≤ k → k < w → Rp D ρ (.pointer (some ⟨L.b, o + k.toNat, none⟩)) (.g b o w k)
  | q {c : List U} {p o o' : Nat} : Rd D (.pointer (some ⟨p, o, none⟩)) (.p (some c)) → o' = o → ∀ n, Rp D ρ (.pointer (some ⟨p, o' + n, none⟩)) (.q c n)
  | w {b : Nat} {L : Loc} : ρ[b]? = some L → Rp D ρ (.slice L.a L.n L.c) (.w b)
  | c {a : Option Addr} {n sz : Nat} {rows : List (List U)} : Rd D (.slice a n n) (.l sz rows) → Rp D ρ (.slice a n n) (.c sz rows)
  | m {b : Nat} {L : Loc} : ρ[b]? = some L → Rp D ρ (.map (some L.b)) (.m b)
  | nm : Rp D ρ (.map none) .nm
  | nl {s : Nat} : Rp D ρ (.slice none 0 0) (.nl s)
  | f {g : FuncId} {xs ys : List Value} {a c : List V} : RpL D ρ xs a → RpL D ρ ys c → Rp D ρ (.func (.func g) xs.toArray ys.toArray) (.f g a c)
  | a {vs : List Value} {l : List V} : RpC D ρ vs l → Rp D ρ (.agg vs.toArray) (.a l)
  | t {vs : List Value} {l : List V} : RpL D ρ vs l → Rp D ρ (.tuple vs.toArray) (.t l)
  | z {v : Value} : Rp D ρ v .z
  | y {b : Nat} {L : Loc} : ρ[b]? = some L → Rp D ρ (.func (.yield L.b) #[] #[]) (.y b)
  | v {b sz l n cap : Nat} {c : Bool} {a : Option Addr} {L : Loc} : ρ[b]? = some L → l + n ≤ L.n → (l = 0 → a = L.a) → (0 < n → ∃ p q, L.a = some ⟨p, q, none⟩ ∧ a = some ⟨p, q + l * sz, none⟩) → n ≤ cap → (c = true → cap = n) → (c = false → l = 0 → cap = L.c) →
      Rp D ρ (.slice a n cap) (.v b sz l n c)
  | sl {b o n cap : Nat} {a : Option Addr} {L : Loc} : ρ[b]? = some L → (0 < n → a = some ⟨L.b, o, none⟩) → n ≤ cap → Rp D ρ (.slice a n cap) (.sl b o n)
inductive RpL (D : Fz) (ρ : List Loc) : List Value → List V → Prop
  | nil : RpL D ρ [] []
  | cons {v : Value} {x : V} {vs : List Value} {xs : List V} : Rp D ρ v x → RpL D ρ vs xs → RpL D ρ (v :: vs) (x :: xs)
inductive RpC (D : Fz) (ρ : List Loc) : List Value → List V → Prop
  | nil : RpC D ρ [] []
  | cons {v : Value} {x : V} {vs : List Value} {xs : List V} : Rp D ρ v x → (∀ k w l, x ≠ .n k w l) → RpC D ρ vs xs → RpC D ρ (v :: vs) (x :: xs)
  | n {k : IntKind} {w : Nat} {l : List Int} {vs : List Value} {xs : List V} : l.length = w → RpC D ρ vs xs → RpC D ρ (l.map (.int k) ++ vs) (.n k w l :: xs)
end
inductive MRel (D : Fz) (ag : Bool) : MV → List (MK × List U) → Prop
  | nil : MRel D ag [] []
  | cons {k : MK} {v : Value} {us : List U} {vs : List Value} {m : MV} {rows : List (MK × List U)} : RdL D vs us → cond ag (v = .agg vs.toArray) (vs = [v]) → MRel D ag m rows → MRel D ag ((k, v) :: m) ((k, us) :: rows)
inductive Ent (D : Fz) (ρ : List Loc) (L : Loc) : AB → Chunk → Prop
  | c {arr : List Value} {T : TypeId} {l : List V} : RpC D ρ arr l → Ent D ρ L (.c l) [(L.b, .cells arr.toArray T (0, 0))]
  | w {E sz : Nat} {rows : List (List U)} {ch : Chunk} : Own D E sz L.a L.c rows ch → L.n = rows.length → Ent D ρ L (.w E sz rows) ch
  | o {I : Ob} {ch : Chunk} : I.f D L.b ch → Ent D ρ L (.o I) ch
  | p {kt : KT} {sz : Nat} {ag : Bool} {rows : List (MK × List U)} {es : Array MapEntry} {clk : Nat} {mv : MV} : MpI kt es clk mv → MRel D ag mv rows → (∀ r ∈ rows, r.2.length = sz) → Ent D ρ L (.p kt sz ag rows) [(L.b, .map es clk)]
  | tk {ob : Obj} : L.o = some ob → Ent D ρ L .tk [(L.b, ob)]
  | x : Ent D ρ L .x []
structure SAt (D : Fz) (ρ : List Loc) (m : Mem) (chs C : List Chunk) (h : Heap) : Prop where
  len : ρ.length = m.length
  lch : chs.length = m.length
  ent : ∀ (i : Nat) (L : Loc) (ab : AB) (ch : Chunk), ρ[i]? = some L → m[i]? = some ab → chs[i]? = some ch → Ent D ρ L ab ch
  st : St D (chs ++ C) h
def PRun (P : Program) (g : FuncId) (m : Mem) (args : List V) (Q : V → Mem → Prop) : Prop :=
  ∀ (D : Fz) (ρ : List Loc) (chs C : List Chunk) (h : Heap) (vs : List Value), SAt D ρ m chs C h → RpL D ρ vs args →
    Run P g vs h fun v h' => ∃ (D' : Fz) (ρ' : List Loc) (chs' : List Chunk) (x : V) (m' : Mem), Le D D' ∧ SAt D' (ρ ++ ρ') m' chs' C h' ∧ Rp D' (ρ ++ ρ') v x ∧ Q x m'
def patZ : Value × Nat → Pt
  | (.int k _, _) => .i k
  | (.bool _, _) => .b
  | (.string _, _) => .s
  | (.slice .., s) => .l s
  | (.pointer _, _) => .p
  | _ => .z
def patT (P : Program) (T : TypeId) : RP :=
  match layS P T with
  | some (.one z) => .one (patZ z)
  | some (.many zs) => .agg (zs.map patZ)
  | none => .one .z
def patC (m : Mem) : V → Pt
  | .u (.i k _) => .i k
  | .u (.b _) => .b
  | .u (.s _) => .s
  | .u (.l s _) => .l s
  | .u (.p _) => .p
  | .q _ 0 => .p
  | .c s _ => .l s
  | .nl s => .l s
  | .n _ w _ => .n w
  | .w j => match mg m j with
    | .w E sz _ => .ow E sz
    | _ => .z
  | .r j o => .r j o
  | .m j => .m j
  | .nm => .nm
  | _ => .z
def patA (m : Mem) (own : Bool) : AB → BP
  | .o _ => .A
  | .x => .X
  | .tk => .X
  | .w E sz _ => cond own (.row E sz) .X
  | .p kt sz ag _ => .mp kt sz ag
  | .c l => .c (l.map (patC m))
def normL (P : Program) : List TypeId → List V → List V
  | T :: Ts, v :: l => datV (normV P T v) :: normL P Ts l
  | _, l => l
def normG (P : Program) (gc : Bool) : List TypeId → List V → List V
  | T :: Ts, v :: l => cond gc (normV P T v) (datV (normV P T v)) :: normG P gc Ts l
  | _, l => l
def frzV (ro : List Nat) (m : Mem) : V → Option (V × Mem)
  | .w b => match toU ro m (.w b) with
    | some (u, m1) => some (.u u, m1)
    | none => none
  | .a l => match frzC m l with
    | some (l', m1) => some (.a l', m1)
    | none => none
  | v => some (v, m)
where frzC : Mem → List V → Option (List V × Mem)
  | m, [] => some ([], m)
  | m, .w b :: l => match toU ro m (.w b) with
    | some (u, m1) => match frzC m1 l with
      | some (l', m2) => some (.u u :: l', m2)
      | none => none
    | none => none
  | m, v :: l => match frzC m l with
    | some (l', m2) => some (v :: l', m2)
    | none => none
def frzL (ro : List Nat) : Mem → List V → Option (List V × Mem)
  | m, [] => some ([], m)
  | m, v :: l => match frzV ro m v with
    | some (v', m1) => match frzL ro m1 l with
      | some (l', m2) => some (v' :: l', m2)
      | none => none
    | none => none
def posL : List Nat → Nat → Nat → Nat
  | [], _, k => k
  | x :: l, b, k => cond (Nat.beq x b) k (posL l b (k + 1))
def nthN : List Nat → Nat → Nat
  | [], _ => 0
  | x :: _, 0 => x
  | _ :: l, n + 1 => nthN l n
def oneV : List V → V
  | [v] => v
  | l => .t l
def roEq (ro : List Nat) (m m' : Mem) : List Nat → Prop → Prop
  | [], K => K
  | b :: ix, K => cond (inL ro b) (mg m' b = mg m b ∧ roEq ro m m' ix K) (roEq ro m m' ix K)
def resX (rs : List RP) (x : V) : List V :=
  match rs, x with
  | [_], x => [x]
  | _, .t l => l
  | _, x => [x]
def oneR (rs : List RP) (xs : List V) : V :=
  match rs with
  | [_] => oneV xs
  | _ => .t xs
def post (rs : List RP) (bs : List BP) (F : PtT Prop (rs.flatMap RP.ps ++ bs.flatMap BP.ps)) (x : V) (m' : Mem) : Prop :=
  match pkR bs.length m' rs (resX rs x) with
  | some (os, m1) => match pkB bs.length m1 bs (List.range bs.length) with
    | some (os2, _) => apP False _ F (os ++ os2)
    | none => False
  | none => False
structure KN (P : Program) where
  f : FuncId → Mem → List V → Option (V × Mem)
  ok : ∀ g m a r, f g m a = some r → PRun P g m a fun x m' => x = r.1 ∧ m' = r.2
def KN.no {P : Program} : KN P := ⟨fun _ _ _ => none, fun _ _ _ _ h => nomatch h⟩
structure Nx (ro hr : List Nat) (D : Fz) (ρ : List Loc) (m : Mem) (chs : List Chunk) (D' : Fz) (ρ' : List Loc) (m' : Mem) (chs' : List Chunk) : Prop where
  le : Le D D'
  pre : ∃ s, ρ' = ρ ++ s
  keep : ∀ b, inL hr b = true → b < m.length → chs'[b]? = chs[b]?
  same : ∀ b, inL (hr ++ ro) b = true → b < m.length → mg m' b = mg m b
  len : m.length ≤ m'.length
def PostE (ro hr : List Nat) (D : Fz) (ρ : List Loc) (m : Mem) (chs C : List Chunk) (KS : V → Mem → Prop) (v : Value) (h' : Heap) : Prop :=
  ∃ D' ρ' m' chs' x, Nx ro hr D ρ m chs D' ρ' m' chs' ∧ SAt D' ρ' m' chs' C h' ∧ Rp D' ρ' v x ∧ KS x m'
def CallOk (P : Program) (X : Fz → List Loc → Prop) (ro hr : List Nat) (call : CallH) : Prop :=
  ∀ {g : FuncId} {args : List V} {m : Mem} {KS : V → Mem → Prop} {D : Fz} {ρ : List Loc} {chs C : List Chunk} {h : Heap} {vs : List Value}, X D ρ → call g args m KS → SAt D ρ m chs C h → RpL D ρ vs args → Run P g vs h (PostE ro hr D ρ m chs C KS)
def Stab (X : Fz → List Loc → Prop) : Prop := ∀ {D D' : Fz} {ρ : List Loc} (s : List Loc), X D ρ → Le D D' → X D' (ρ ++ s)
structure SP (P : Program) where
  f : List Nat → CallH → FuncId → List V → Mem → (V → Mem → Prop) → Option Prop
  ok : ∀ {ro hr : List Nat} {X : Fz → List Loc → Prop} {call : CallH}, Stab X → CallOk P X ro hr call → ∀ {g : FuncId} {args : List V} {m : Mem} {KS : V → Mem → Prop} {p : Prop}, f (hr ++ ro) call g args m KS = some p → p →
    ∀ {D : Fz} {ρ : List Loc} {chs C : List Chunk} {h : Heap} {vs : List Value}, X D ρ → SAt D ρ m chs C h → RpL D ρ vs args → Run P g vs h (PostE ro hr D ρ m chs C KS)
structure SH (P : Program) where
  lo : List ((Nat × Nat × Nat) × Hint)
  jo : List ((Nat × Nat × Nat) × Hint)
  inl : List Nat
  ow : List Nat
  ps : List (Nat × List RP × List BP)
  own : Bool
  n : Nat
  kn : KN P
  gc : Bool
  sp : SP P
def findH : List ((Nat × Nat × Nat) × Hint) → Nat → Nat → Nat → Option Hint
  | [], _, _, _ => none
  | (k, h) :: l, f, r, n => cond (Nat.beq k.1 f && Nat.beq k.2.1 r && Nat.beq k.2.2 n) (some h) (findH l f r n)
def findP : List (Nat × List RP × List BP) → Nat → Option (List RP × List BP)
  | [], _ => none
  | (k, h) :: l, g => cond (Nat.beq k g) (some h) (findP l g)
def allIn (ix : List Nat) : List Nat → Bool
  | [] => true
  | b :: l => inL ix b && allIn ix l
def disj (hr : List Nat) : List Nat → Bool
  | [] => true
  | b :: l => !inL hr b && disj hr l
def below (n : Nat) : List Nat → Bool
  | [] => true
  | b :: l => Nat.ble (b + 1) n && below n l
def subM (m : Mem) (ix : List Nat) : Mem := ix.map fun b => renA (fun b => posL ix b 0) (mg m b)
def datM : Mem → Mem
  | [] => []
  | a :: m => datA a :: datM m
def canonK (ix : List Nat) (t : List V) (m : Mem) (K : List V → Mem → Prop) : Prop :=
  cond (allIn ix (refsL t) && allIn ix (ix.flatMap fun b => refsA (mg m b)) && below m.length ix) (K (renL (fun b => posL ix b 0) t) (subM m ix)) False
def canonS (n : Nat) (K : List V → Mem → Prop) (t : List V) (m : Mem) : Prop :=
  cond (Nat.ble m.length (n + 1)) (K t m) (canonK (clo m 1000 (refsL t ++ (m.take n).flatMap refsA) (List.range n)) t m K)
def callQ (P : Program) (kn : KN P) (g : FuncId) (m : Mem) (a : List V) (Q : V → Mem → Prop) : Prop :=
  match kn.f g m a with
  | some r => Q r.1 r.2
  | none => PRun P g m a Q
def callT (P : Program) (kn : KN P) (ro hr : List Nat) (g : FuncId) (ix : List Nat) (rs : List RP) (bs : List BP) (as' : List V) (m1 : Mem) (K : V → Mem → Prop) : Prop :=
  cond (disj hr ix && below m1.length ix && allIn ix (refsL as') && allIn ix (ix.flatMap fun b => refsA (mg m1 b)) && Nat.beq bs.length ix.length)
    (callQ P kn g (datM (subM m1 ix)) (renL (fun b => posL ix b 0) as') (post rs bs (mkP _ fun is =>
      roEq ro m1 (reB (nthN ix) (reR (nthN ix) (killM m1 ix) rs is).2.2 bs ix (reR (nthN ix) (killM m1 ix) rs is).2.1) ix
        (K (oneR rs (reR (nthN ix) (killM m1 ix) rs is).1) (reB (nthN ix) (reR (nthN ix) (killM m1 ix) rs is).2.2 bs ix (reR (nthN ix) (killM m1 ix) rs is).2.1))))) False
def patsA (m1 : Mem) (as' : List V) (ix : List Nat) : List BP := ix.map fun b => patA (subM m1 ix) (inL (refsL as') b) (renA (fun b => posL ix b 0) (mg m1 b))
def callS (P : Program) (H : SH P) (ro hr : List Nat) (fn : Func) (g : FuncId) (args : List V) (m : Mem) (K : V → Mem → Prop) : Prop :=
  match cond (inL H.ow g) (some (normL P fn.params.toList args, m)) (frzL (hr ++ ro) m (normL P fn.params.toList args)) with
  | none => False
  | some (as', m1) => match findP H.ps g with
    | some ps => callT P H.kn ro hr g (clo m1 1000 (refsL as') []) ps.1 ps.2 as' m1 K
    | none => callT P H.kn ro hr g (clo m1 1000 (refsL as') []) (fn.resultTypes.toList.map (patT P)) (patsA m1 as' (clo m1 1000 (refsL as') [])) as' m1 K
abbrev PostS := Ex → List V → Mem → Prop
def thenS (K : List V → Mem → Prop) (Q : PostS) : PostS
  | .nrm, t, h => K t h
  | .ext i, t, h => Q (.ext i) t h
  | .ret, t, h => Q .ret t h
def blockS (id : Nat) (Q : PostS) : PostS
  | .nrm, t, h => Q .nrm t h
  | .ext j, t, h => cond (Nat.beq j id) (Q .nrm t h) (Q (.ext j) t h)
  | .ret, t, h => Q .ret t h
def resL (P : Program) : List ResultVar → List V → Mem → (List V → Prop) → Prop
  | [], _, _, K => K []
  | .tmp i :: l, t, m, K => resL P l t m fun vs => K (vget t i :: vs)
  | .cell i T :: l, t, m, K => sLoad P T (vget t i) m fun v => resL P l t m fun vs => K (v :: vs)
def retG (P : Program) (gc : Bool) (fn : Func) (K : V → Mem → Prop) : PostS
  | .ext _, _, _ => False
  | _, t, m => resL P fn.results.toList t m fun vs => K (oneV (normG P gc fn.resultTypes.toList vs)) m
def frameG (P : Program) (gc : Bool) (fn : Func) (args : List V) : List V := normG P gc fn.params.toList args ++ List.replicate (fn.ntmps - args.length) .z
abbrev retS (P : Program) (fn : Func) (K : V → Mem → Prop) : PostS := retG P false fn K
abbrev frame0 (P : Program) (fn : Func) (args : List V) : List V := frameG P false fn args
abbrev SelfT := Nat → List Nat → List Nat → Code → PostS → List V → Mem → Prop
def wkV : V → V
  | .nl s => .c s []
  | x => x
def gcQ (gc : Option Nat) (K : V → Mem → Prop) (x : V) (m : Mem) : Prop :=
  match gc with
  | some n => canonS n (fun t m2 => K (vget t 0) m2 ∨ K (wkV (vget t 0)) m2) [x] m
  | none => K x m
def callH0 (P : Program) (H : SH P) (self : SelfT) (ro hr : List Nat) : CallH := fun g args m K =>
  match P.funcs[g]? with
  | none => False
  | some fn => cond (inL H.inl g)
      (match fn.body with
        | none => False
        | some c => cond (fn.name == "runtime.NumGoroutine") False (self g ro hr c (retG P H.gc fn (gcQ (cond H.gc (some m.length) none) K)) (frameG P H.gc fn args) m))
      (callS P H ro hr fn g args m K)
def callH (P : Program) (H : SH P) (self : SelfT) (ro hr : List Nat) : CallH := fun g args m K =>
  match H.sp.f (hr ++ ro) (callH0 P H self ro hr) g args m K with
  | some p => p
  | none => callH0 P H self ro hr g args m K
def gcT (gc : Option Nat) (K : List V → Mem → Prop) (t : List V) (m : Mem) : Prop :=
  match gc with
  | some n => canonS n K t m
  | none => K t m
def rnds (gc : Option Nat) (step : PostS → List V → Mem → Prop) (Q : PostS) : Nat → List V → Mem → Prop
  | 0, _, _ => False
  | n + 1, t, m => step (thenS (gcT gc (rnds gc step Q n)) Q) t m
inductive YC where
  | out | rd | it (b : Nat) (f : List Nat → List Nat → List V → Mem → (V → Mem → Prop) → Prop)
abbrev SelfY := YC → SelfT
def YC.sub : YC → YC
  | .it b f => .it b f
  | _ => .out
def YC.h (Y : YC) (ro hr : List Nat) (b : Nat) (args : List V) (m : Mem) (K : V → Mem → Prop) : Prop :=
  match Y with
  | .it b' f => cond (Nat.beq b b') (f ro hr args m K) False
  | _ => False
def setA : List V → List Tmp → List V → List V
  | t, p :: ps, v :: vs => setA (vset t p v) ps vs
  | t, _, _ => t
def isY (a : AB) (K : Prop) : Prop :=
  match a with
  | .tk => K
  | _ => False
theorem isY_iff {a : AB} {K : Prop} (h : isY a K) : a = .tk ∧ K := by
  cases a <;> first | exact ⟨rfl, h⟩ | exact h.elim
def noEx (c : Code) : Bool := match exitsOf c with | [] => true | _ => false
def vcC (P : Program) (H : SH P) (self : SelfY) (fi : Nat) : Code → YC → List Nat → List Nat → PostS → List V → Mem → Prop
  | .skip, _, _, _, Q, t, m => Q .nrm t m
  | .region _ ops d, Y, hr, ro, Q, t, m =>
    cond (ops.toList.all fun o => !isDefer o) (cond d (cond (drawB ops.toList ops.toList.length [] && Region.noSelect ops.toList.toArray) (drawS P ro hr (callH P H (self Y.sub) ro) ops.toList (canonS m.length (Q .nrm)) ops.toList.length [] [] t m) False)
      (opsSY P H.gc (hr ++ ro) (callH P H (self Y.sub) ro hr) (Y.h ro hr) ops.toList (Q .nrm) ops.toList t m)) False
  | .seq x y, Y, hr, ro, Q, t, m =>
    match findH H.jo fi (firstRegion y) m.length with
    | none => vcC P H self fi x Y hr ro (thenS (vcC P H self fi y Y hr ro Q) Q) t m
    | some h => cond (disj (hr ++ ro) (h.tk t m) && below m.length (h.bl.map (·.1))) (
      ∀ k : PtT Prop h.ps, allP h.ps (zipP (fun (A B : Prop) => A → B) h.ps (mkP h.ps fun is => vcC P H self fi y Y hr ro Q (h.st (mods x) t m is).1 (h.st (mods x) t m is).2) k) →
        vcC P H self fi x Y hr (roOf (h.base t m) 0 ++ ro) (thenS (fun t' m' => h.el (h.base t m) k t' m') Q) t m) False
  | .cond c x y, Y, hr, ro, Q, t, m => match evS t c with
    | .u (.b b) => cond b (vcC P H self fi x Y hr ro Q t m) (vcC P H self fi y Y hr ro Q t m)
    | _ => False
  | .block id c, Y, hr, ro, Q, t, m => vcC P H self fi c Y hr ro (blockS id Q) t m
  | .loop c, Y, hr, ro, Q, t, m =>
    match findH H.lo fi (firstRegion c) m.length with
    | none => rnds (cond H.gc (some m.length) none) (fun Q => vcC P H self fi c Y hr ro Q) Q H.n t m
    | some h => cond (disj (hr ++ ro) (h.tk t m) && below m.length (h.bl.map (·.1))) (
      ∃ (I : PtT Prop h.ps) (f : PtT Nat h.ps), h.el (h.base t m) I t m ∧
        allP h.ps (zipP (fun (A B : Prop) => A → B) h.ps I (zipP (fun (n : Nat) (B : Nat → Prop) => B n) h.ps f (mkP h.ps fun is n =>
          vcC P H self fi c Y hr (roOf (h.base t m) 0 ++ ro) (thenS (fun t' m' => h.el (h.base t m) (zipP (fun (A : Prop) n' => A ∧ n' < n) h.ps I f) t' m') Q) (h.st (mods c) t m is).1 (h.st (mods c) t m is).2)))) False
  | .exit id, _, _, _, Q, t, m => Q (.ext id) t m
  | .ret, _, _, _, Q, t, m => Q .ret t m
  | .scope c, Y, hr, ro, Q, t, m => vcC P H self fi c Y hr ro Q t m
  | .label _, _, _, _, Q, t, m => Q .nrm t m
  | .rangeFunc g ps assign body, .out, hr, ro, Q, t, m =>
    match evS t g with
    | .f gi as' cs => match P.funcs[gi]? with
      | none => False
      | some fn => match fn.body with
        | none => False
        | some c => cond (fn.name == "runtime.NumGoroutine" || !noEx body) False (
          self (.it m.length fun ro' hr' args m1 K => isY (mg m1 m.length) (cond (Nat.beq args.length ps.size) (vcC P H self fi assign .rd hr' ro'
              (thenS (fun t2 m2 => vcC P H self fi body .rd hr' ro' (fun e _ m3 => match e, mg m3 m.length with
                | .nrm, .x => K (.u (.b true)) (ms m3 m.length .tk)
                | _, _ => False) t2 m2) fun _ _ _ => False) (setA t ps.toList args) (ms m1 m.length .x)) False))
            gi ro hr c (retG P H.gc fn fun _ m' => isY (mg m' m.length) (Q .nrm t (ms m' m.length .x))) (frameG P H.gc fn (as' ++ [.y m.length] ++ cs)) (m ++ [.tk]))
    | _ => False
  | _, _, _, _, _, _, _ => False
def runS (P : Program) (H : SH P) : Nat → SelfY
  | 0, _, _, _, _, _, _, _, _ => False
  | n + 1, Y, fi, ro, hr, c, Q, t, m => vcC P H (runS P H n) fi c Y hr ro Q t m
def endT (Q : V → Mem → Prop) (x : V) (m : Mem) (ix : List Nat) : Prop :=
  cond (allIn ix (refsV x) && allIn ix (ix.flatMap fun b => refsA (mg m b)) && below m.length ix) (Q (renV (fun b => posL ix b 0) x) (subM m ix)) False
def frzX (own : Bool) (m : Mem) : V → Option (V × Mem)
  | .t l => cond own (some (.t l, m)) (match frzL [] m l with | some (l', m1) => some (.t l', m1) | none => none)
  | x => cond own (some (x, m)) (frzV [] m x)
def endS (own : Bool) (n : Nat) (Q : V → Mem → Prop) (x : V) (m : Mem) : Prop :=
  match frzX own m x with
  | none => False
  | some (x1, m1) => endT Q x1 m1 (clo m1 1000 (refsV x1 ++ (m1.take n).flatMap refsA) (List.range n))
def vcFunS (P : Program) (H : SH P) (n : Nat) (f : FuncId) (fn : Func) (m : Mem) (args : List V) (Q : V → Mem → Prop) : Prop :=
  match fn.body with
  | none => False
  | some c => runS P H n .out f [] [] c (retS P fn (endS H.own m.length Q)) (frame0 P fn args) m
end Go.Proofs.YtalglagdgabafaaGreat
