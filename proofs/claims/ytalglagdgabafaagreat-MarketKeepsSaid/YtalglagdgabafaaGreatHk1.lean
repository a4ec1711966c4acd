/- Maps, part d: what is done with a map's block. -/
import Derived.WalkKit
import Derived.Orders
import Derived.KernelRfl
import Derived.Shelf.SlLaysF0
import Derived.Ground.SlsfProg
import Derived.Test.YtalglagdgabafaaGreatProg
import Derived.Shelf.Bits.Mul64
import Derived.Shelf.SlSortCmp.NoneTotal
import Derived.ChangeKeysEq
import Derived.MapKept
import Derived.ProofKit
import Derived.Deep.Slices
import Derived.ChangeMaps4
set_option linter.unusedVariables false
namespace Go.Proofs.YtalglagdgabafaaGreat
open _root_.Array renaming getD_eq_getD_getElem? → z4s, getElem?_append_left → z5m, getElem?_eq_some_iff → z5k, getElem?_modify → z51, getElem?_replicate → z6s, getElem?_toList → z6q, mapM_eq_mapM_toList → z6i, toArray_toList → z3y
open _root_.Bool renaming and_eq_true → z17, false_eq_true → z3n, not_eq_true' → z2u, not_false → z47, not_true → z3s, or_eq_false_iff → z49, or_eq_true → z34, true_and → z4l
open _root_.Int renaming le_refl → z2v
open _root_.Go.IntKind renaming wrap → z13
open _root_.List renaming all_eq_true → z29, append_assoc → z2m, cons_append → z3r, contains_cons → z6r, drop_drop → z4x, drop_eq_getElem_cons → z4w, drop_eq_nil_of_le → z4n, drop_zero → z38, eq_nil_of_length_eq_zero → z3w, eraseIdx_cons_succ → z6t, ext_getElem → z4m, ext_getElem? → z4o, find?_eq_none → z5n, find?_some → z5z, flatMap_cons → z52, flatMap_def → z56, flatten_append → z21, flatten_cons → z2n, getD_eq_getElem?_getD → z4g, getElem?_append_left → z2k, getElem?_append_right → z2t, getElem?_cons_succ → z4t, getElem?_drop → z4i, getElem?_eq_getElem → z2c, getElem?_eq_some_iff → z2a, getElem?_map → z2i, getElem?_range → z5s, getElem?_set → z31, getElem?_take → z37, getElem?_toArray → z3o, length → z15, length_append → z2z, length_cons → z2o, length_nil → z36, mapM_cons → z48, map_append → z28, map_congr_left → z5p, map_cons → z2s, map_map → z3c, map_take → z5b, mem_append → z2f, mem_cons → z2e, mem_cons_of_mem → z2j, mem_cons_self → z2p, mem_filter → z3p, mem_iff_getElem? → z3t, mem_map → z20, mem_of_find?_eq_some → z5y, mem_of_getElem? → z2y, mem_of_mem_take → z5o, mem_range → z35, mem_singleton → z3v, mem_singleton_self → z2x, nodup_append → z4u, pairwise_iff_getElem → z5q, perm_append_comm → z5a, range → z2b, range_succ_eq_map → z6j, replicate → z2g, size_toArray → z4h, take_append_drop → z4c, take_nil → z54, take_of_length_le → z5d
open _root_.Nat renaming add_assoc → z30, add_mul → z3i, add_zero → z4b, beq → z14, ble → z19, eq_of_beq_eq_true → z18, le_of_ble_eq_true → z2w, le_refl → z2r, lt_of_lt_of_le → z5l, lt_or_ge → z3z, min_eq_left → z5c, mul_le_mul_right → z3e, mul_one → z5r, succ_mul → z24, zero_add → z2l, zero_le → z3j, zero_mul → z4v
open _root_.Option renaming getD_some → z3b, map_eq_some_iff → z3k, map_some → z3h
open _root_.Go.Result renaming andThen_ok → z2h
abbrev Stk := Int × Int
def MaxQ : Int := 1125899906842624
def tot (l : List Stk) (k : Int) : Int :=
 match l with
 | [] => 0
 | s :: l => (if s.1 = k then s.2 else 0) + tot l k
def good (l : List Stk) : Prop := ∀ s ∈ l, 1 ≤ s.1 ∧ 0 ≤ s.2
def over (l : List Stk) : Prop := ∃ s ∈ l, MaxQ < tot l s.1
open Classical in
noncomputable def errN (l : List Stk) : Int := if good l then (if over l then 5 else 0) else 1
abbrev zac := Array Obj
def hcell (h : zac) (a : Addr) : Option Value :=
 match h[a.block]? with
 | some (.cells c _ _) => if a.spot.isSome then none else c[a.off]?
 | _ => none
def hshape (h : zac) (r : Nat) : Option (TypeId × Nat) :=
 match h[r]? with
 | some (.cells c elem _) => some (elem, c.size)
 | _ => none
def zxo (h : zac) (a : Addr) : Bool :=
 match h[a.block]? with
 | some (.cells _ _ (lo, hi)) => lo ≤ a.off && a.off < hi
 | _ => false
def hset (h : zac) (a : Addr) (v : Value) : zac :=
 h.modify a.block fun
  | .cells c elem frozen => .cells (if a.spot.isSome then c else c.setIfInBounds a.off v) elem frozen
  | o => o
def zih : Obj → Bool
 | .cells .. => true
 | _ => false
def single : Value → Bool
 | .agg _ | .tuple _ => false
 | _ => true
structure Same (w w' : World) : Prop where
 tape : w'.tape = w.tape
 os : w'.os = w.os
 output : w'.output = w.output
 drawn : w.drawn ≤ w'.drawn
theorem Same.refl (w : World) : Same w w := ⟨rfl, rfl, rfl, z2r _⟩
theorem Same.trans {a b c : World} (h : Same a b) (k : Same b c) : Same a c :=
 ⟨k.tape.trans h.tape, k.os.trans h.os, k.output.trans h.output, Nat.le_trans h.drawn k.drawn⟩
def SWp {α : Type} (P : Program) : Sem α → zac → (α → zac → Prop) → Prop
 | .pure a, h, K => K a h
 | .load _ a k, h, K => ∃ v, hcell h a = some v ∧ SWp P (k v) h K
 | .store _ a v k, h, K => single v = true ∧ (∃ u, hcell h a = some u) ∧ zxo h a = false ∧ SWp P k (hset h a v) K
 | .new o k, h, K => SWp P (k h.size) (h.push o) K
 | .shape r k, h, K => SWp P (k (hshape h r)) h K
 | .freeze .., _, _ => False
 | .frozen a k, h, K => SWp P (k (zxo h a)) h K
 | .getObj r k, h, K => ∃ o, h[r]? = some o ∧ zih o = false ∧ SWp P (k o) h K
 | .setObj r o k, h, K => (∃ u, h[r]? = some u ∧ zih u = false) ∧ SWp P k (h.setIfInBounds r o) K
 | .choose q k, h, K => (q.forced = true → SWp P (k 0) h K) ∧ (q.forced = false → ∀ t, SWp P (k (q.cut t)) h K)
 | .sys .., _, _ => False
 | .program k, h, K => SWp P (k P) h K
 | .mark _ k, h, K => SWp P k h K
 | .halt _, _, _ => False
theorem SWp.sound {α : Type} {P : Program} {s : Sem α} : ∀ {h : zac} {K : α → zac → Prop}, SWp P s h K → ∀ w : World, w.heap = h →
 ∃ a w', s.run P w = .ok a w' ∧ K a w'.heap ∧ Same w w' := by
 induction s with
 | pure a => intro h K hs w hw; exact ⟨a, w, rfl, hw ▸ hs, .refl w⟩
 | load m a k ih =>
   intro h K hs w hw
   obtain ⟨v, hv, hk⟩ := hs
   subst hw
   have hv' : w.cell? a = some v := hv
   simp only [Sem.run, hv']
   exact ih v hk w rfl
 | store m a v k ih =>
   intro h K hs w hw
   obtain ⟨h1, ⟨u, hu⟩, hf, hk⟩ := hs
   subst hw
   have hu' : w.cell? a = some u := hu
   have hf' : w.frozen? a = false := hf
   obtain ⟨x, w', hr, hK, hS⟩ := ih hk (w.setCell a v) rfl
   refine ⟨x, w', ?_, hK, ⟨hS.tape, hS.os, hS.output, hS.drawn⟩⟩
   rw [← hr]
   cases v <;> simp [single] at h1 <;> simp [Sem.run, hu', hf']
 | new o k ih =>
   intro h K hs w hw
   subst hw
   obtain ⟨x, w', hr, hK, hS⟩ := ih w.heap.size hs { w with heap := w.heap.push o } rfl
   exact ⟨x, w', hr, hK, ⟨hS.tape, hS.os, hS.output, hS.drawn⟩⟩
 | shape r k ih =>
   intro h K hs w hw
   subst hw
   exact ih (w.shape? r) hs w rfl
 | freeze a n k ih => intro h K hs; exact hs.elim
 | frozen a k ih =>
   intro h K hs w hw
   subst hw
   exact ih (w.frozen? a) hs w rfl
 | getObj r k ih =>
   intro h K hs w hw
   subst hw
   obtain ⟨o, ho, hc, hk⟩ := hs
   obtain ⟨x, w', hr, hK, hS⟩ := ih o hk w rfl
   refine ⟨x, w', ?_, hK, hS⟩
   rw [← hr]
   cases o <;> simp [zih] at hc <;> simp [Sem.run, ho]
 | setObj r o k ih =>
   intro h K hs w hw
   subst hw
   obtain ⟨⟨u, hu, hc⟩, hk⟩ := hs
   obtain ⟨x, w', hr, hK, hS⟩ := ih hk { w with heap := w.heap.setIfInBounds r o } rfl
   refine ⟨x, w', ?_, hK, ⟨hS.tape, hS.os, hS.output, hS.drawn⟩⟩
   rw [← hr]
   cases u <;> simp [zih] at hc <;> simp [Sem.run, hu]
 | choose q k ih =>
   intro h K hs w hw
   subst hw
   by_cases hq : q.forced = true
   · obtain ⟨x, w', hr, hK, hS⟩ := ih 0 (hs.1 hq) w rfl
     exact ⟨x, w', by simp only [Sem.run, hq, if_true]; exact hr, hK, hS⟩
   · have hq' : q.forced = false := by simpa using hq
     obtain ⟨x, w', hr, hK, hS⟩ := ih (q.cut (w.tape w.drawn q)) (hs.2 hq' _) { w with drawn := w.drawn + 1 } rfl
     exact ⟨x, w', by simp only [Sem.run, hq', z3n, if_false]; exact hr, hK, ⟨hS.tape, hS.os, hS.output, Nat.le_trans (Nat.le_succ _) hS.drawn⟩⟩
 | sys c k ih => intro h K hs; exact hs.elim
 | program k ih => intro h K hs w hw; exact ih P hs w hw
 | mark m k ih => intro h K hs w hw; exact ih hs w hw
 | halt x => intro h K hs; exact hs.elim
theorem SWp.mono {α : Type} {P : Program} {s : Sem α} : ∀ {h : zac} {K K' : α → zac → Prop}, (∀ a h', K a h' → K' a h') → SWp P s h K → SWp P s h K' := by
 induction s with
 | pure a => intro h K K' hk hs; exact hk _ _ hs
 | load m a k ih => intro h K K' hk hs; obtain ⟨v, hv, h2⟩ := hs; exact ⟨v, hv, ih v hk h2⟩
 | store m a v k ih => intro h K K' hk hs; exact ⟨hs.1, hs.2.1, hs.2.2.1, ih hk hs.2.2.2⟩
 | new o k ih => intro h K K' hk hs; exact ih _ hk hs
 | shape r k ih => intro h K K' hk hs; exact ih _ hk hs
 | freeze a n k ih => intro h K K' hk hs; exact hs
 | frozen a k ih => intro h K K' hk hs; exact ih _ hk hs
 | getObj r k ih => intro h K K' hk hs; obtain ⟨o, ho, hc, h2⟩ := hs; exact ⟨o, ho, hc, ih o hk h2⟩
 | setObj r o k ih => intro h K K' hk hs; exact ⟨hs.1, ih hk hs.2⟩
 | choose q k ih => intro h K K' hk hs; exact ⟨fun hq => ih 0 hk (hs.1 hq), fun hq t => ih _ hk (hs.2 hq t)⟩
 | sys c k ih => intro h K K' hk hs; exact hs
 | program k ih => intro h K K' hk hs; exact ih P hk hs
 | mark m k ih => intro h K K' hk hs; exact ih hk hs
 | halt x => intro h K K' hk hs; exact hs
theorem SWp.bind {α β : Type} {P : Program} {s : Sem α} {f : α → Sem β} : ∀ {h : zac} {K : β → zac → Prop},
 SWp P s h (fun a h' => SWp P (f a) h' K) → SWp P (s >>= f) h K := by
 show ∀ {h : zac} {K : β → zac → Prop}, SWp P s h (fun a h' => SWp P (f a) h' K) → SWp P (s.bind f) h K
 induction s with
 | pure a => intro h K hs; exact hs
 | load m a k ih => intro h K hs; obtain ⟨v, hv, h2⟩ := hs; exact ⟨v, hv, ih v h2⟩
 | store m a v k ih => intro h K hs; exact ⟨hs.1, hs.2.1, hs.2.2.1, ih hs.2.2.2⟩
 | new o k ih => intro h K hs; exact ih _ hs
 | shape r k ih => intro h K hs; exact ih _ hs
 | freeze a n k ih => intro h K hs; exact hs
 | frozen a k ih => intro h K hs; exact ih _ hs
 | getObj r k ih => intro h K hs; obtain ⟨o, ho, hc, h2⟩ := hs; exact ⟨o, ho, hc, ih o h2⟩
 | setObj r o k ih => intro h K hs; exact ⟨hs.1, ih hs.2⟩
 | choose q k ih => intro h K hs; exact ⟨fun hq => ih 0 (hs.1 hq), fun hq t => ih _ (hs.2 hq t)⟩
 | sys c k ih => intro h K hs; exact hs
 | program k ih => intro h K hs; exact ih P hs
 | mark m k ih => intro h K hs; exact ih hs
 | halt x => intro h K hs; exact hs
theorem SWp.pure_iff {α : Type} {P : Program} {a : α} {h : zac} {K : α → zac → Prop} : SWp P (pure a) h K ↔ K a h := Iff.rfl
def zbp (P : Program) (f : FuncId) : Prop := ∃ fn, P.funcs[f]? = some fn ∧ (fn.name == "runtime.NumGoroutine") = false ∧ fn.body.isNone = false
def Run (P : Program) (f : FuncId) (args : List Value) (h : zac) (R : Value → zac → Prop) : Prop :=
 zbp P f ∧ ∀ w : World, w.heap = h → Calls P f args.toArray w fun e w' => ∃ v, e = .returned v ∧ R v w'.heap ∧ Same w w'
theorem Run.mono {P : Program} {f : FuncId} {args : List Value} {h : zac} {R R' : Value → zac → Prop} (hr : Run P f args h R)
 (hi : ∀ v h', R v h' → R' v h') : Run P f args h R' :=
 ⟨hr.1, fun w hw => (hr.2 w hw).mono fun _ _ ⟨v, he, hR, hS⟩ => ⟨v, he, hi _ _ hR, hS⟩⟩
theorem zde {P : Program} {f : FuncId} (hc : zbp P f) (args : Array Value) (w : World) :
 (callFunc f args).run P w = .ok (.enter f args) w := by
 obtain ⟨fn, hf, hn, hb⟩ := hc
 unfold callFunc
 show Sem.run P (Sem.bind program _) w = _
 simp only [program, Sem.bind, Sem.run, hf]
 rw [if_neg (by rw [hn]; simp), if_neg (by rw [hb]; simp)]
 rfl
def zc6 : List Value → Nat → Value
 | [], _ => undef
 | v :: _, 0 => v
 | _ :: l, n + 1 => zc6 l n
def zmn : List Value → Nat → Value → List Value
 | [], _, _ => []
 | _ :: l, 0, v => v :: l
 | x :: l, n + 1, v => x :: zmn l n v
def ztv (t : List Value) (d : Option Tmp) (v : Value) : List Value :=
 match d with
 | some i => zmn t i v
 | none => t
def ev (t : List Value) : Operand → Value
 | .tmp i => zc6 t i
 | .const v => v
 | .global g => .pointer (some ⟨g, 0, none⟩)
 | .func f => .func (.func f) #[] #[]
inductive Sh where
 | i (k : IntKind) | b | s | p | sl | m | v
def shOf : Value → Sh
 | .int k _ => .i k
 | .bool _ => .b
 | .string _ => .s
 | .pointer _ => .p
 | .slice .. => .sl
 | .map _ => .m
 | _ => .v
def Sh.Ex (x : Sh) (f : Value → Prop) : Prop :=
 match x with
 | .i k => ∃ n : Int, f (.int k n)
 | .b => ∃ c : Bool, f (.bool c)
 | .s => ∃ s : ByteArray, f (.string s)
 | .p => ∃ a : Option Addr, f (.pointer a)
 | .sl => ∃ (a : Option Addr) (n c : Nat), f (.slice a n c)
 | .m => ∃ r : Option Nat, f (.map r)
 | .v => ∃ v : Value, f v
def exL : List Value → (List Value → Prop) → Prop
 | [], f => f []
 | z :: l, f => (shOf z).Ex fun v => exL l fun vs => f (v :: vs)
def exE (z : Value) (f : Value → Prop) : Prop :=
 match z with
 | .agg cs => exL cs.toList fun vs => f (.agg vs.toArray)
 | z => (shOf z).Ex f
def exT : List Value → (List Value → Prop) → Prop
 | [], f => f []
 | z :: l, f => exE z fun v => exT l fun vs => f (v :: vs)
def exZ (z : Value) (f : Value → Prop) : Prop :=
 match z with
 | .tuple cs => exT cs.toList fun vs => f (.tuple vs.toArray)
 | z => exE z f
def zep (a : Option Addr) (K : Nat → Nat → Prop) : Prop :=
 match a with
 | some ⟨b, o, none⟩ => K b o
 | _ => False
def zye (o n : Nat) : Nat := cond (z14 n 0) o (o + n)
def bcase (v : Value) (A B : Prop) : Prop :=
 match v with
 | .bool c => cond c A B
 | _ => False
inductive Lay where
 | one (z : Value)
 | many (cs : List Value)
def zcv (P : Program) (t : TypeId) : Option Lay :=
 match P.underlying t, P.info? t with
 | some (.struct _), some i | some (.array ..), some i =>
   match i.zero with
   | some (.agg cs) => if cs.size = i.size then some (.many cs.toList) else none
   | _ => none
 | some _, some i =>
   match i.zero with
   | some z => if single z = true ∧ i.size = 1 then some (.one z) else none
   | none => none
 | _, _ => none
def loadS (h : zac) (b o : Nat) : List Value → Nat → (List Value → Prop) → Prop
 | [], _, K => K []
 | z :: l, i, K => (shOf z).Ex fun v => hcell h ⟨b, zye o i, none⟩ = some v ∧ loadS h b o l (i + 1) fun vs => K (v :: vs)
def zxk (P : Program) (t : TypeId) (a : Option Addr) (h : zac) (K : Value → Prop) : Prop :=
 match zcv P t with
 | some (.one z) => zep a fun b o => (shOf z).Ex fun v => hcell h ⟨b, o, none⟩ = some v ∧ K v
 | some (.many cs) => zep a fun b o => loadS h b o cs 0 fun vs => K (.agg vs.toArray)
 | none => False
def stK (h : zac) (a : Addr) (v : Value) (K : zac → Prop) : Prop :=
 single v = true ∧ (∃ u, hcell h a = some u) ∧ zxo h a = false ∧ K (hset h a v)
def zkg (h : zac) (o : Obj) (K : Nat → zac → Prop) : Prop := K h.size (h.push o)
def zdr (b o : Nat) : List Value → Nat → zac → (zac → Prop) → Prop
 | [], _, h, K => K h
 | v :: l, i, h, K => stK h ⟨b, zye o i, none⟩ v fun h' => zdr b o l (i + 1) h' K
def zgu (P : Program) (t : TypeId) (a : Option Addr) (x : Value) (h : zac) (K : zac → Prop) : Prop :=
 match zcv P t, x with
 | some (.one _), x => zep a fun b o => stK h ⟨b, o, none⟩ x K
 | some (.many cs), .agg vs => zep a fun b o => cond (z14 cs.length vs.toList.length) (zdr b o vs.toList 0 h K) False
 | _, _ => False
def XWp {α : Type} (P : Program) : Sem α → (α → Prop) → Prop
 | .pure a, K => K a
 | .program k, K => XWp P (k P) K
 | .mark _ k, K => XWp P k K
 | _, _ => False
def PWp {α : Type} (P : Program) : Sem α → zac → (α → Prop) → Prop
 | .pure a, _, K => K a
 | .load _ a k, h, K => ∃ v, hcell h a = some v ∧ PWp P (k v) h K
 | .shape r k, h, K => PWp P (k (hshape h r)) h K
 | .frozen a k, h, K => PWp P (k (zxo h a)) h K
 | .getObj r k, h, K => ∃ o, h[r]? = some o ∧ zih o = false ∧ PWp P (k o) h K
 | .program k, h, K => PWp P (k P) h K
 | .mark _ k, h, K => PWp P k h K
 | _, _, _ => False
def zap : IntKind → Nat
 | .i8 => 0 | .i16 => 1 | .i32 => 2 | .i64 => 3 | .u8 => 4 | .u16 => 5 | .u32 => 6 | .u64 => 7
def eqV : Value → Value → Option Bool
 | .int k a, .int k' b => cond (z14 (zap k) (zap k')) (some (a == b)) none
 | .bool a, .bool b => some (a == b)
 | .string a, .string b => some (a.toList == b.toList)
 | _, _ => none
def eqL : List Value → List Value → Option Bool
 | [], [] => some true
 | x :: xs, y :: ys =>
   match eqV x y, eqL xs ys with
   | some a, some b => some (a && b)
   | _, _ => none
 | _, _ => none
def flat (P : Program) : List Field → Nat → Bool
 | [], _ => true
 | f :: l, i => (f.offset == i) && (f.name != "_") && (match P.underlying f.type with | some .bool | some (.int _) | some .string => true | _ => false) && flat P l (i + 1)
def fits (P : Program) : List Field → List Value → Bool
 | [], [] => true
 | f :: fs, v :: vs => (match P.underlying f.type, v with | some .bool, .bool _ => true | some (.int _), .int _ _ => true | some .string, .string _ => true | _, _ => false) && fits P fs vs
 | _, _ => false
def intK (op : BinOp) (k : IntKind) (x y : Int) (K : Value → Prop) : Prop :=
 match op with
 | .add => K (.int k (k.wrap (x + y)))
 | .sub => K (.int k (k.wrap (x - y)))
 | .mul => K (.int k (k.wrap (x * y)))
 | .quo => y ≠ 0 ∧ K (.int k (k.wrap (x.tdiv y)))
 | .rem => y ≠ 0 ∧ K (.int k (x.tmod y))
 | .eql => K (.bool (x == y))
 | .neq => K (.bool (x != y))
 | .lss => K (.bool (x < y))
 | .leq => K (.bool (x ≤ y))
 | .gtr => K (.bool (x > y))
 | .geq => K (.bool (x ≥ y))
 | .and => K (.int k (k.wrap (BitVec.ofInt k.bits x &&& BitVec.ofInt k.bits y).toNat))
 | .or => K (.int k (k.wrap (BitVec.ofInt k.bits x ||| BitVec.ofInt k.bits y).toNat))
 | .xor => K (.int k (k.wrap (BitVec.ofInt k.bits x ^^^ BitVec.ofInt k.bits y).toNat))
 | .andNot => K (.int k (k.wrap (BitVec.ofInt k.bits x &&& ~~~BitVec.ofInt k.bits y).toNat))
 | .shl => 0 ≤ y ∧ K (.int k (k.wrap (x * 2 ^ (min y.toNat k.bits))))
 | .shr => 0 ≤ y ∧ K (.int k (x.fdiv (2 ^ (min y.toNat k.bits))))
def zeq (op : BinOp) (z : Bool) (K : Value → Prop) : Prop :=
 match op with
 | .eql => K (.bool z)
 | .neq => K (.bool !z)
 | _ => False
def strK (op : BinOp) (x y : ByteArray) (K : Value → Prop) : Prop :=
 match op with
 | .add => x.size + y.size < 9223372036854775808 ∧ K (.string (x ++ y))
 | .eql => K (.bool (x.toList == y.toList))
 | .neq => K (.bool !(x.toList == y.toList))
 | .lss => K (.bool (Op.bytesLess x.toList y.toList))
 | .leq => K (.bool (Op.bytesLess x.toList y.toList || x.toList == y.toList))
 | .gtr => K (.bool !(Op.bytesLess x.toList y.toList || x.toList == y.toList))
 | .geq => K (.bool !(Op.bytesLess x.toList y.toList))
 | _ => False
def zlg (k k' : IntKind) (A : Prop) : Prop := cond (z14 (zap k) (zap k')) A False
def zub (P : Program) (op : BinOp) (T : TypeId) (x y : Value) (K : Value → Prop) : Prop :=
 match x, y with
 | .int k a, .int k' b =>
   match op with
   | .shl => 0 ≤ b ∧ K (.int k (k.wrap (a * 2 ^ (min b.toNat k.bits))))
   | .shr => 0 ≤ b ∧ K (.int k (a.fdiv (2 ^ (min b.toNat k.bits))))
   | op => zlg k k' (intK op k a b K)
 | .string a, .string b => strK op a b K
 | .bool a, .bool b => match P.underlying T with | some .bool => zeq op (a == b) K | _ => False
 | .pointer a, .pointer none => match P.underlying T with | some (.pointer _) => zeq op a.isNone K | _ => False
 | .slice a _ _, .slice none _ _ => match P.underlying T with | some (.slice _) => zeq op a.isNone K | _ => False
 | .map a, .map none => match P.underlying T with | some (.map ..) => zeq op a.isNone K | _ => False
 | .agg xs, .agg ys =>
   match P.underlying T with
   | some (.struct fs) => cond (flat P fs.toList 0 && !P.stoodInHeld T && !P.eqGuardType P.depth T)
    (cond (fits P fs.toList xs.toList && z14 xs.toList.length fs.toList.length && z14 ys.toList.length fs.toList.length)
     (match eqL xs.toList ys.toList with | some c => zeq op c K | none => False) False) False
   | _ => False
 | _, _ => False
def pickK (c a b : Value) (K : Value → Prop) : Prop :=
 match c, a, b with
 | .bool c, .bool x, .bool y => K (.bool (cond c x y))
 | .bool c, a, b => cond c (K a) (K b)
 | _, _, _ => False
def zaj (P : Program) (t : TypeId) : Nat := ((P.info? t).map (·.size)).getD 0
def zi5 (a b : Nat) : Nat := cond (z14 b 0) a (a - b)
def slA (a : Option Addr) (c l s : Nat) : Option Addr := cond (z14 l 0) a (if c = l then a else a.map fun x => ⟨x.block, x.off + l * s, none⟩)
def leK (c : Bool) (l r : Int) (K : Prop) : Prop := cond c K (l ≤ r ∧ K)
def nz (n : Nat) (A : Prop) : Prop := cond (z14 n 0) False A
def zar : List Value → Nat → List Value → List Value
 | l, _, [] => l
 | [], _, _ => []
 | _ :: l, 0, v :: vs => v :: zar l 0 vs
 | x :: l, n + 1, v :: vs => x :: zar l n (v :: vs)
def zlo (place : Nat → Option (Nat × Nat)) : List Value → List (Nat × Value) → Option (List Value)
 | l, [] => some l
 | l, (i, v) :: rest =>
   match place i with
   | none => none
   | some (o, s) => cond (z14 v.cells.toList.length s && z19 (o + v.cells.toList.length) l.length) (zlo place (zar l o v.cells.toList) rest) none
def zia (P : Program) (fs : List Field) (i : Nat) : Option (Nat × Nat) :=
 match fs[i]? with
 | some f => some (f.offset, zaj P f.type)
 | none => none
def zio (P : Program) : List Field → Bool
 | [] => true
 | f :: fs => !z14 (zaj P f.type) 0 && zio P fs
def zch (o : Oper) : Bool :=
 match o.op with
 | .move _ | .assign _ | .pick .. | .nilCheck _ | .binOp .. | .unOp .. | .convert .. | .makeFunc .. | .fieldAddr .. | .field .. | .indexAddr .. | .index .. | .extract .. | .slice .. | .build .. => true
 | .call { callee := .builtin .len, argTypes := _, args := _ } => false
 | .call { callee := .builtin .min, .. } | .call { callee := .builtin .max, .. } => true
 | _ => false
def zgz (o : Oper) : Bool :=
 match o.op with
 | .load .. | .lookup .. => true
 | .call { callee := .builtin .len, .. } => true
 | _ => false
def zw9 (K : Value → Prop) : Next → Prop
 | .value v => K v
 | _ => False
def bnd (t : List Value) (x : Option Operand) (d : Int) : Option Int :=
 match x with
 | none => some d
 | some x => match ev t x with | .int _ i => some i | _ => none
def ze7 (P : Program) (t : List Value) (o : Oper) (K : Value → Prop) : Prop :=
 match o.op with
 | .move x | .assign x => K (ev t x)
 | .pick c a b => pickK (ev t c) (ev t a) (ev t b) K
 | .nilCheck x =>
   match ev t x with
   | .pointer a => zep a fun b o => K (.pointer (some ⟨b, o, none⟩))
   | .func (.func f) a b => K (.func (.func f) a b)
   | _ => False
 | .binOp op T x y _ => zub P op T (ev t x) (ev t y) K
 | .fieldAddr s x f =>
   match P.underlying s, ev t x with
   | some (.struct fs), .pointer a =>
     match fs[f]? with
     | some fd => nz (zaj P fd.type) (zep a fun b o => K (.pointer (some ⟨b, zye o fd.offset, none⟩)))
     | none => False
   | _, _ => False
 | .indexAddr T x i =>
   match P.underlying T, ev t x, ev t i with
   | some (.slice e), .slice a n _, .int _ i => zep a fun b o => 0 ≤ i ∧ i < n ∧ nz (zaj P e) (K (.pointer (some ⟨b, o + i.toNat * zaj P e, none⟩)))
   | some (.array n e), .pointer a, .int _ i => zep a fun b o => 0 ≤ i ∧ i < n ∧ nz (zaj P e) (K (.pointer (some ⟨b, o + i.toNat * zaj P e, none⟩)))
   | _, _, _ => False
 | .index T x i =>
   match P.underlying T, ev t x, ev t i with
   | some .string, .string s, .int _ i => 0 ≤ i ∧ i < s.size ∧ K (.int .u8 (s.data.getD i.toNat 0).toNat)
   | _, _, _ => XWp P (execOp (ev t) o) (zw9 K)
 | .build T ps =>
   match P.underlying T, P.info? T with
   | some (.struct fs), some i =>
     match i.zero with
     | some (.agg cs) => cond (zio P fs.toList)
       (match zlo (zia P fs.toList) cs.toList (ps.toList.map fun p => (p.1, ev t p.2)) with
        | some l => K (.agg l.toArray)
        | none => False) False
     | _ => False
   | _, _ => XWp P (execOp (ev t) o) (zw9 K)
 | .slice T x lo hi mx =>
   match P.underlying T, ev t x, mx with
   | some (.slice e), .slice a n c, none =>
     match bnd t lo 0, bnd t hi n with
     | some l, some r => leK lo.isNone 0 l (l ≤ r ∧ r ≤ c ∧ nz (zaj P e) (K (.slice (slA a c l.toNat (zaj P e)) (zi5 r.toNat l.toNat) (zi5 c l.toNat))))
     | _, _ => False
   | some .string, .string s, none =>
     match bnd t lo 0, bnd t hi s.size with
     | some l, some r => leK lo.isNone 0 l (l ≤ r ∧ r ≤ s.size ∧ K (.string (s.extract l.toNat r.toNat)))
     | _, _ => False
   | some (.slice e), .slice a n c, some mx =>
     match bnd t lo 0, bnd t hi n, bnd t (some mx) 0 with
     | some l, some r, some m => cond hi.isSome (leK lo.isNone 0 l (l ≤ r ∧ r ≤ m ∧ m ≤ c ∧ nz (zaj P e) (K (.slice (slA a m.toNat l.toNat (zaj P e)) (zi5 r.toNat l.toNat) (zi5 m.toNat l.toNat))))) False
     | _, _, _ => False
   | some (.pointer A), .pointer a, none =>
     match P.underlying A with
     | some (.array n e) =>
       match bnd t lo 0, bnd t hi n with
       | some l, some r => zep a fun b o => leK lo.isNone 0 l (l ≤ r ∧ r ≤ n ∧ nz (zaj P e) (K (.slice (slA (some ⟨b, o, none⟩) n l.toNat (zaj P e)) (zi5 r.toNat l.toNat) (zi5 n l.toNat))))
       | _, _ => False
     | _ => False
   | some (.array n e), .pointer a, none =>
     match bnd t lo 0, bnd t hi n with
     | some l, some r => zep a fun b o => leK lo.isNone 0 l (l ≤ r ∧ r ≤ n ∧ nz (zaj P e) (K (.slice (slA (some ⟨b, o, none⟩) n l.toNat (zaj P e)) (zi5 r.toNat l.toNat) (zi5 n l.toNat))))
     | _, _ => False
   | _, _, _ => False
 | _ => XWp P (execOp (ev t) o) (zw9 K)
def zp1 (P : Program) (t : TypeId) : Value := (((P.info? t).bind (·.zero))).getD undef
def zxj (P : Program) (T : TypeId) (m k : Value) (ok : Bool) (h : zac) (K : Value → Prop) : Prop := PWp P (Instr.lookup T m k ok) h K
def zgk (h : zac) (r : Option Nat) (K : Int → Prop) : Prop :=
 match r with
 | none => K 0
 | some b => ∃ es c, h[b]? = some (.map es c) ∧ K es.size
def zz2 (P : Program) (t : List Value) (o : Oper) (h : zac) (K : Value → Prop) : Prop :=
 match o.op with
 | .load T a =>
   match ev t a with
   | .pointer a => zxk P T a h K
   | _ => False
 | .lookup T m k ok => zxj P T (ev t m) (ev t k) ok h fun v => exZ (zp1 P o.type) fun v' => v = v' ∧ K v'
 | .call c =>
   match c.callee with
   | .builtin .len =>
     match c.args[0]?, c.argTypes[0]? with
     | some x, some T =>
       match P.underlying T, ev t x with
       | some .string, .string s => K (.int .i64 s.size)
       | some (.slice _), .slice _ n _ => K (.int .i64 n)
       | some (.map ..), .map r => zgk h r fun n => K (.int .i64 n)
       | _, _ => False
     | _, _ => False
   | _ => False
 | _ => False
abbrev Hints := List (Nat × List (Nat × Sh))
structure Hn where
 hs : Hints
 js : Hints
 rs : List (Nat × TypeId)
def rsOf : List (Nat × TypeId) → Operand → TypeId
 | (s, T) :: l, .tmp n => cond (z14 s n) T (rsOf l (.tmp n))
 | _, _ => 0
def zsn (P : Program) (f : Value) (args : List Value) (h : zac) (R : Value → zac → Prop) : Prop :=
 match f with
 | .func (.func g) first captured => Run P g (first.toList ++ args ++ captured.toList) h R
 | _ => False
def zkf (P : Program) (K : Value → zac → Prop) : Next → zac → Prop
 | .value v, h => K v h
 | .skip, h => K undef h
 | .enter f args, h => Run P f args.toList h K
 | _, _ => False
def znx (P : Program) (ts : Array TypeId) (T : TypeId) (s x : Value) (h : zac) (K : Value → zac → Prop) : Prop := SWp P (Builtin.append_ ts T #[s, x]) h K
def zxu (P : Program) (ts : Array TypeId) (T : TypeId) (s x : Value) (h : zac) (K : Value → zac → Prop) : Prop := SWp P (Builtin.copy_ ts T #[s, x]) h K
def delK (P : Program) (ts : Array TypeId) (T : TypeId) (s x : Value) (h : zac) (K : Value → zac → Prop) : Prop := SWp P (Builtin.delete_ ts T #[s, x]) h K
def clearK (P : Program) (ts : Array TypeId) (T : TypeId) (x : Value) (h : zac) (K : Value → zac → Prop) : Prop := SWp P (Builtin.clear_ ts T #[x]) h K
def updK (P : Program) (T : TypeId) (m k v : Value) (h : zac) (K : zac → Prop) : Prop := SWp P (Instr.mapUpdate T m k v) h fun _ h' => K h'
def zxh (P : Program) (T : TypeId) (l c : Value) (h : zac) (K : Value → zac → Prop) : Prop := SWp P (Instr.makeSlice T l c) h K
def zm9 (P : Program) (T : TypeId) (x : Value) (h : zac) (K : Value → zac → Prop) : Prop := SWp P (Instr.range T x) h K
def zxb (P : Program) (it : Value) (h : zac) (E : zac → Prop) (K : Value → Value → zac → Prop) : Prop :=
 SWp P (Instr.next it false 0) h fun v h' => (v = .tuple #[.bool false] ∧ E h') ∨ ∃ k x : Value, v = .tuple #[.bool true, k, x] ∧ K k x h'
def nextS (P : Program) (it : Value) (h : zac) (E : zac → Prop) (K : Int → Int → zac → Prop) : Prop :=
 SWp P (Instr.next it true 0) h fun v h' => (v = .tuple #[.bool false] ∧ E h') ∨ ∃ i c : Int, v = .tuple #[.bool true, .int .i64 i, .int .i32 c] ∧ K i c h'
def znt (P : Program) (it : Value) (h : zac) (K : Value → zac → Prop) : Prop := SWp P (Instr.entry it) h K
def entryK (P : Program) (T : TypeId) (it : Value) (h : zac) (K : Value → zac → Prop) : Prop :=
 match P.underlying T with
 | some (.map k e) => znt P it h fun v h' => exE (zp1 P k) fun a => exE (zp1 P e) fun b => v = .tuple #[a, b] ∧ K (.tuple #[a, b]) h'
 | _ => False
def zdw (P : Program) (T : TypeId) (m k : Value) (h : zac) (K : Value → zac → Prop) : Prop := SWp P (Instr.mapEntry T m k) h K
def zf1 (P : Program) (T : TypeId) (m s v : Value) (h : zac) (K : zac → Prop) : Prop := SWp P (Instr.entryStore T m s v) h fun _ h' => K h'
def zqb (P : Program) (T : TypeId) (K : Value → zac → Prop) (v : Value) (h : zac) : Prop := exZ (zp1 P T) fun v' => v = v' ∧ K v' h
def zrx (P : Program) (H : Hn) (t : List Value) (o : Oper) (h : zac) (K : Value → zac → Prop) : Prop :=
 match o.op with
 | .store T a x =>
   match ev t a with
   | .pointer a => zgu P T a (ev t x) h (K undef)
   | _ => False
 | .box T x => zkg h (.cells (ev t x).cells T) fun b h' => K (.pointer (some ⟨b, 0, none⟩)) h'
 | .alloc T => match (P.info? T).bind (·.zero) with
   | some z => zkg h (.cells z.cells T) fun b h' => K (.pointer (some ⟨b, 0, none⟩)) h'
   | none => False
 | .buildSlice T n ps =>
   match P.underlying T with
   | some (.slice e) =>
     match P.info? e with
     | some i =>
       match i.zero with
       | some z => cond (z19 (n * i.size) 16777216 && !z14 (n * i.size) 0)
         (match zlo (fun j => some (j * i.size, i.size)) ((z2b (n * i.size)).map fun j => z.cells[j % z.cells.size]!) (ps.toList.map fun p => (p.1, ev t p.2)) with
         | some l => zkg h (.cells l.toArray e) fun b h' => K (.slice (some ⟨b, 0, none⟩) n n) h'
         | none => False) False
       | none => False
     | none => False
   | _ => False
 | .makeMap _ none => zkg h (.map #[] 0) fun b h' => K (.map (some b)) h'
 | .mapUpdate T m k v => updK P T (ev t m) (ev t k) (ev t v) h (K undef)
 | .makeSlice T l c => zxh P T (ev t l) (ev t c) h (zqb P o.type K)
 | .range T x => zm9 P T (ev t x) h K
 | .mapEntry T m k => zdw P T (ev t m) (ev t k) h K
 | .entryStore T m s v => zf1 P T (ev t m) (ev t s) (ev t v) h (K undef)
 | .call c =>
   match c.callee with
   | .value f => zsn P (ev t f) (c.args.toList.map (ev t)) h (zqb P o.type K)
   | .builtin .append => match c.args.toList with
     | [s, x] => znx P c.argTypes o.type (ev t s) (ev t x) h (zqb P o.type K)
     | _ => False
   | .builtin .copy => match c.args.toList with
     | [s, x] => zxu P c.argTypes o.type (ev t s) (ev t x) h (zqb P o.type K)
     | _ => False
   | .builtin .delete => match c.args.toList with
     | [s, x] => delK P c.argTypes o.type (ev t s) (ev t x) h K
     | _ => False
   | .builtin .clear => match c.args.toList with
     | [x] => clearK P c.argTypes o.type (ev t x) h K
     | _ => False
   | _ => SWp P (execOp (ev t) o) h (zkf P K)
 | .next it false => zxb P (ev t it) h (fun h' => K (.tuple #[.bool false]) h') (fun a b h' => K (.tuple #[.bool true, a, b]) h')
 | .next it true => nextS P (ev t it) h (fun h' => K (.tuple #[.bool false]) h') (fun i c h' => K (.tuple #[.bool true, .int .i64 i, .int .i32 c]) h')
 | .entry it => entryK P (rsOf H.rs it) (ev t it) h K
 | .panic _ => False
 | .makeInterface _ _ => False
 | _ => SWp P (execOp (ev t) o) h (zkf P K)
def opK (P : Program) (H : Hn) (t : List Value) (o : Oper) (h : zac) (K : Value → zac → Prop) : Prop :=
 cond (zch o) (ze7 P t o fun v => K v h) (cond (zgz o) (zz2 P t o h fun v => K v h) (zrx P H t o h K))
def zcy (ops : List Oper) (o : Oper) : Option (Option Nat × Bool) :=
 match o.guard with
 | none => none
 | some (j, want) => some ((ops[j]?).bind (·.dst), want)
def zff (ops : List Oper) (o : Oper) (t : List Value) (A B : List Value → Prop) : Prop :=
 match zcy ops o with
 | none => A t
 | some (none, _) => B t
 | some (some d, want) =>
   match zc6 t d with
   | .bool c => cond c (cond want (A (zmn t d (.bool true))) (B (zmn t d (.bool true)))) (cond want (B (zmn t d (.bool false))) (A (zmn t d (.bool false))))
   | _ => B t
def vcOps (P : Program) (H : Hn) (ops : List Oper) (K : List Value → zac → Prop) : List Oper → List Value → zac → Prop
 | [], t, h => K t h
 | o :: rest, t, h => zff ops o t (fun t => opK P H t o h fun v h' => vcOps P H ops K rest (ztv t o.dst v) h') (fun t => vcOps P H ops K rest (ztv t o.dst undef) h)
def zqo (ops : List Oper) (done : List Nat) (i : Nat) : Bool :=
 !done.contains i && match ops[i]? with
  | some o => o.after.toList.all fun e => !Region.binds .any e || done.contains e.on
  | none => false
def zq7 (ops : List Oper) (done : List Nat) : Option Nat :=
 (z2b ops.length).find? fun i => zqo ops done i && (match ops[i]? with | some o => zch o || zgz o | none => false)
def zb7 (ops : List Oper) (done : List Nat) : List Nat := (z2b ops.length).filter (zqo ops done)
def conjL : List Nat → (Nat → Prop) → Prop
 | [], _ => False
 | [i], f => f i
 | i :: l, f => f i ∧ conjL l f
def zck (ops : List Oper) : Nat → Nat → Nat → Bool
 | 0, _, _ => false
 | n + 1, i, j =>
   match ops[j]? with
   | some o => o.after.toList.any fun e => Region.binds .any e && (e.on == i || zck ops n i e.on)
   | none => false
def again (P : Program) (ops : List Oper) (e : Nat) (h : zac) : List (Nat × Oper × List Value × Value) → Prop → Prop
 | [], K => K
 | (i, o, t, v) :: l, K => cond (zck ops ops.length i e) (again P ops e h l K) (zz2 P t o h (fun v' => v' = v) ∧ again P ops e h l K)
def zf6 (P : Program) (H : Hn) (ops : List Oper) (K : List Value → zac → Prop) : Nat → List Nat → List (Nat × Oper × List Value × Value) → List Value → zac → Prop
 | 0, _, _, t, h => K t h
 | n + 1, done, held, t, h =>
   match zq7 ops done with
   | some i =>
     match ops[i]? with
     | none => False
     | some o => zff ops o t
      (fun t => cond (zch o) (ze7 P t o fun v => zf6 P H ops K n (i :: done) held (ztv t o.dst v) h)
       (zz2 P t o h fun v => zf6 P H ops K n (i :: done) ((i, o, t, v) :: held) (ztv t o.dst v) h))
      (fun t => zf6 P H ops K n (i :: done) held (ztv t o.dst undef) h)
   | none => conjL (zb7 ops done) fun i =>
     match ops[i]? with
     | none => False
     | some o => zff ops o t
      (fun t => zrx P H t o h fun v h' => again P ops i h' held (zf6 P H ops K n (i :: done) held (ztv t o.dst v) h'))
      (fun t => zf6 P H ops K n (i :: done) held (ztv t o.dst undef) h)
def zhr (ops : List Oper) : Nat → List Nat → Bool
 | 0, done => (z2b ops.length).all fun i => done.contains i
 | n + 1, done =>
   match zq7 ops done with
   | some i =>
     match ops[i]? with
     | none => false
     | some o =>
       ((z2b ops.length).all fun j => j == i || done.contains j || match ops[j]? with
        | some oj => oj.after.toList.any (fun e => Region.binds .any e && e.on == i) || o.apart ops.toArray oj
        | none => true) && zhr ops n (i :: done)
   | none => (zb7 ops done).all fun i => (match ops[i]? with | some o => !(zch o || zgz o) | none => false) && zhr ops n (i :: done)
inductive Ex where
 | nrm
 | ext (id : Nat)
 | ret
abbrev Post := Ex → List Value → zac → Prop
def zuk : List Sh → Type
 | [] => zac → Prop
 | .i _ :: l => Int → zuk l
 | .b :: l => Bool → zuk l
 | .s :: l => ByteArray → zuk l
 | .p :: l => Option Addr → zuk l
 | .sl :: l => Option Addr → Nat → Nat → zuk l
 | .m :: l => Option Nat → zuk l
 | .v :: l => Value → zuk l
def MeaT : List Sh → Type
 | [] => zac → Nat
 | .i _ :: l => Int → MeaT l
 | .b :: l => Bool → MeaT l
 | .s :: l => ByteArray → MeaT l
 | .p :: l => Option Addr → MeaT l
 | .sl :: l => Option Addr → Nat → Nat → MeaT l
 | .m :: l => Option Nat → MeaT l
 | .v :: l => Value → MeaT l
def app : (l : List Sh) → zuk l → List Value → zac → Prop
 | [], I, [], h => I h
 | .i k :: l, I, .int k' n :: vs, h => zlg k k' (app l (I n) vs h)
 | .b :: l, I, .bool c :: vs, h => app l (I c) vs h
 | .s :: l, I, .string s :: vs, h => app l (I s) vs h
 | .p :: l, I, .pointer a :: vs, h => app l (I a) vs h
 | .sl :: l, I, .slice a n c :: vs, h => app l (I a n c) vs h
 | .m :: l, I, .map r :: vs, h => app l (I r) vs h
 | .v :: l, I, v :: vs, h => app l (I v) vs h
 | _, _, _, _ => False
def zx1 : (l : List Sh) → MeaT l → List Value → zac → Nat
 | [], m, [], h => m h
 | .i _ :: l, m, .int _ n :: vs, h => zx1 l (m n) vs h
 | .b :: l, m, .bool c :: vs, h => zx1 l (m c) vs h
 | .s :: l, m, .string s :: vs, h => zx1 l (m s) vs h
 | .p :: l, m, .pointer a :: vs, h => zx1 l (m a) vs h
 | .sl :: l, m, .slice a n c :: vs, h => zx1 l (m a n c) vs h
 | .m :: l, m, .map r :: vs, h => zx1 l (m r) vs h
 | .v :: l, m, v :: vs, h => zx1 l (m v) vs h
 | _, _, _, _ => 0
def allI : (l : List Sh) → zuk l → zac → (List Value → Prop) → Prop
 | [], I, h, f => I h → f []
 | .i k :: l, I, h, f => ∀ n : Int, allI l (I n) h fun vs => f (.int k n :: vs)
 | .b :: l, I, h, f => ∀ c : Bool, allI l (I c) h fun vs => f (.bool c :: vs)
 | .s :: l, I, h, f => ∀ s : ByteArray, allI l (I s) h fun vs => f (.string s :: vs)
 | .p :: l, I, h, f => ∀ a : Option Addr, allI l (I a) h fun vs => f (.pointer a :: vs)
 | .sl :: l, I, h, f => ∀ (a : Option Addr) (n c : Nat), allI l (I a n c) h fun vs => f (.slice a n c :: vs)
 | .m :: l, I, h, f => ∀ r : Option Nat, allI l (I r) h fun vs => f (.map r :: vs)
 | .v :: l, I, h, f => ∀ v : Value, allI l (I v) h fun vs => f (v :: vs)
def zaw : Code → List Nat
 | .region _ ops _ => ops.toList.filterMap (·.dst) ++ ops.toList.filterMap fun o => match o.guard with | some (j, _) => (ops.toList[j]?).bind (·.dst) | none => none
 | .seq x y => zaw x ++ zaw y
 | .cond _ x y => zaw x ++ zaw y
 | .block _ c => zaw c
 | .loop c => zaw c
 | .scope c => zaw c
 | _ => []
def garb (md : List Nat) (g : Nat → Value) : List Value → Nat → List Value
 | [], _ => []
 | v :: l, k => cond (md.contains k) (g k) v :: garb md g l (k + 1)
def ze1 : List Value → List Nat → List Value → List Value
 | t, i :: is, v :: vs => ze1 (zmn t i v) is vs
 | t, _, _ => t
def zaf : Code → Nat
 | .region id _ _ => id
 | .seq x _ => zaf x
 | .cond _ x _ => zaf x
 | .block _ c => zaf c
 | .loop c => zaf c
 | .scope c => zaf c
 | _ => 0
def zbj (hs : Hints) (n : Nat) : List (Nat × Sh) :=
 match hs with
 | [] => []
 | (k, l) :: r => cond (z14 k n) l (zbj r n)
def ztz (hs : Hints) (n : Nat) : Bool :=
 match hs with
 | [] => false
 | (k, _) :: r => cond (z14 k n) true (ztz r n)
def zpw : (l : List Sh) → zuk l → zac → (List Value → Prop) → Prop
 | [], I, h, f => f [] → I h
 | .i k :: l, I, h, f => ∀ n : Int, zpw l (I n) h fun vs => f (.int k n :: vs)
 | .b :: l, I, h, f => ∀ c : Bool, zpw l (I c) h fun vs => f (.bool c :: vs)
 | .s :: l, I, h, f => ∀ s : ByteArray, zpw l (I s) h fun vs => f (.string s :: vs)
 | .p :: l, I, h, f => ∀ a : Option Addr, zpw l (I a) h fun vs => f (.pointer a :: vs)
 | .sl :: l, I, h, f => ∀ (a : Option Addr) (n c : Nat), zpw l (I a n c) h fun vs => f (.slice a n c :: vs)
 | .m :: l, I, h, f => ∀ r : Option Nat, zpw l (I r) h fun vs => f (.map r :: vs)
 | .v :: l, I, h, f => ∀ v : Value, zpw l (I v) h fun vs => f (v :: vs)
def slots : List (Nat × Sh) → List Nat
 | [] => []
 | p :: l => p.1 :: slots l
def zm3 : List (Nat × Sh) → List Sh
 | [] => []
 | p :: l => p.2 :: zm3 l
def zsw (t : List Value) : List (Nat × Sh) → List Value
 | [] => []
 | p :: l => zc6 t p.1 :: zsw t l
def zgl (md : List Nat) (t : List Value) (l : List (Nat × Sh)) (g : Nat → Value) (vs : List Value) : List Value :=
 ze1 (garb md g t 0) (slots l) vs
def thenQ (K : List Value → zac → Prop) (Q : Post) : Post
 | .nrm, t, h => K t h
 | .ext i, t, h => Q (.ext i) t h
 | .ret, t, h => Q .ret t h
def blockQ (id : Nat) (Q : Post) : Post
 | .nrm, t, h => Q .nrm t h
 | .ext j, t, h => cond (z14 j id) (Q .nrm t h) (Q (.ext j) t h)
 | .ret, t, h => Q .ret t h
def vc (P : Program) (H : Hn) : Code → Post → List Value → zac → Prop
 | .skip, Q, t, h => Q .nrm t h
 | .region _ ops d, Q, t, h =>
   cond d (cond (zhr ops.toList ops.toList.length [] && Region.noSelect ops.toList.toArray) (zf6 P H ops.toList (Q .nrm) ops.toList.length [] [] t h) False) (vcOps P H ops.toList (Q .nrm) ops.toList t h)
 | .seq x y, Q, t, h =>
   cond (ztz H.js (zaf y))
    (∀ k : zuk (zm3 (zbj H.js (zaf y))),
     (∀ h' : zac, zpw _ k h' fun vs => ∀ g : Nat → Value, vc P H y Q (zgl (zaw x) t (zbj H.js (zaf y)) g vs) h') →
     vc P H x (thenQ (fun t' h' => app _ k (zsw t' (zbj H.js (zaf y))) h') Q) t h)
    (vc P H x (thenQ (vc P H y Q) Q) t h)
 | .cond c x y, Q, t, h => bcase (ev t c) (vc P H x Q t h) (vc P H y Q t h)
 | .block id c, Q, t, h => vc P H c (blockQ id Q) t h
 | .loop c, Q, t, h =>
   ∃ (I : zuk (zm3 (zbj H.hs (zaf c)))) (m : MeaT (zm3 (zbj H.hs (zaf c)))),
     app _ I (zsw t (zbj H.hs (zaf c))) h ∧
     ∀ (g : Nat → Value) (h' : zac), allI _ I h' fun vs =>
       vc P H c (thenQ (fun t2 h2 => app _ I (zsw t2 (zbj H.hs (zaf c))) h2 ∧ zx1 _ m (zsw t2 (zbj H.hs (zaf c))) h2 < zx1 _ m vs h') Q)
        (zgl (zaw c) t (zbj H.hs (zaf c)) g vs) h'
 | .exit id, Q, t, h => Q (.ext id) t h
 | .ret, Q, t, h => Q .ret t h
 | .scope c, Q, t, h => vc P H c Q t h
 | .label _, Q, t, h => Q .nrm t h
 | _, _, _, _ => False
def zzt (P : Program) : List ResultVar → List Value → zac → (List Value → Prop) → Prop
 | [], _, _, K => K []
 | .tmp i :: l, t, h, K => zzt P l t h fun vs => K (zc6 t i :: vs)
 | .cell i T :: l, t, h, K =>
   match zc6 t i with
   | .pointer a => zxk P T a h fun v => zzt P l t h fun vs => K (v :: vs)
   | _ => False
def one : List Value → Value
 | [v] => v
 | vs => .tuple vs.toArray
def vcFun (P : Program) (H : Hn) (fn : Func) (args : List Value) (h : zac) (R : Value → zac → Prop) : Prop :=
 match fn.body with
 | none => False
 | some c => vc P H c (fun e t h => match e with | .ext _ => False | .nrm => zzt P fn.results.toList t h fun vs => R (one vs) h | .ret => zzt P fn.results.toList t h fun vs => R (one vs) h)
  (args ++ z2g (fn.ntmps - args.length) undef) h
section
variable {P : Program}
theorem XWp.sound {α : Type} {s : Sem α} : ∀ {K : α → Prop}, XWp P s K → ∃ a, K a ∧ ∀ w, s.run P w = .ok a w := by
 induction s with
 | pure a => intro K h; exact ⟨a, h, fun _ => rfl⟩
 | program k ih => intro K h; exact ih P h
 | mark m k ih => intro K h; exact ih h
 | _ => intro K h; exact h.elim
theorem PWp.sound {α : Type} {s : Sem α} {h : zac} : ∀ {K : α → Prop}, PWp P s h K → ∃ a, K a ∧ ∀ w : World, w.heap = h → s.run P w = .ok a w := by
 induction s with
 | pure a => intro K hs; exact ⟨a, hs, fun _ _ => rfl⟩
 | load m a k ih =>
   intro K hs
   obtain ⟨v, hv, hk⟩ := hs
   obtain ⟨x, hx, hr⟩ := ih v hk
   refine ⟨x, hx, fun w hw => ?_⟩
   have hv' : w.cell? a = some v := by subst hw; exact hv
   simp only [Sem.run, hv']
   exact hr w hw
 | shape r k ih =>
   intro K hs
   obtain ⟨x, hx, hr⟩ := ih _ hs
   exact ⟨x, hx, fun w hw => by subst hw; exact hr w rfl⟩
 | frozen a k ih =>
   intro K hs
   obtain ⟨x, hx, hr⟩ := ih _ hs
   exact ⟨x, hx, fun w hw => by subst hw; exact hr w rfl⟩
 | getObj r k ih =>
   intro K hs
   obtain ⟨o, ho, hc, hk⟩ := hs
   obtain ⟨x, hx, hr⟩ := ih o hk
   refine ⟨x, hx, fun w hw => ?_⟩
   rw [← hr w hw]
   subst hw
   cases o <;> simp [zih] at hc <;> simp [Sem.run, ho]
 | program k ih => intro K hs; exact ih P hs
 | mark m k ih => intro K hs; exact ih hs
 | _ => intro K hs; exact hs.elim
theorem za8 {a : Option Addr} {K : Nat → Nat → Prop} (h : zep a K) : ∃ b o, a = some ⟨b, o, none⟩ ∧ K b o := by
 unfold zep at h
 split at h
 · exact ⟨_, _, rfl, h⟩
 · exact h.elim
theorem zaa {c : Bool} {A : Prop} (h : cond c A False) : c = true ∧ A := by
 cases c
 · exact h.elim
 · exact ⟨rfl, h⟩
theorem zb8 {n : Nat} {A : Prop} (h : nz n A) : n ≠ 0 ∧ A := by
 unfold nz at h
 cases hb : z14 n 0 with
 | true => rw [hb] at h; exact h.elim
 | false => rw [hb] at h; exact ⟨fun hn => by subst hn; simp at hb, h⟩
theorem zcr {k k' : IntKind} (h : zap k = zap k') : k = k' := by
 cases k <;> cases k' <;> first | rfl | (simp [zap] at h)
theorem zek {k k' : IntKind} {A : Prop} (h : zlg k k' A) : k = k' ∧ A := by
 obtain ⟨h1, h2⟩ := zaa h
 exact ⟨zcr (z18 h1), h2⟩
theorem zez (a b : Nat) : zi5 a b = a - b := by
 unfold zi5
 cases h : z14 b 0 with
 | true => have := z18 h; subst this; rfl
 | false => rfl
theorem zux (a : Option Addr) (c l s : Nat) (hs : s ≠ 0) : slA a c l s = if c = l then a else a.map (·.add (l * s)) := by
 unfold slA
 cases h : z14 l 0 with
 | true =>
   have := z18 h; subst this
   cases a <;> simp [Addr.add]
 | false =>
   have hl : l ≠ 0 := fun hn => by subst hn; simp at h
   simp only [cond_false]
   split
   · rfl
   · cases a with
     | none => rfl
     | some x =>
       simp only [z3h, Addr.add]
       split
       · rename_i h2
         rcases Nat.mul_eq_zero.1 h2 with h3 | h3
         · exact absurd h3 hl
         · exact absurd h3 hs
       · rfl
theorem zby {lo : Option Operand} {t : List Value} {l : Int} {K : Prop} (hl : bnd t lo 0 = some l) (h : leK lo.isNone 0 l K) : 0 ≤ l ∧ K := by
 cases lo with
 | none => simp [bnd] at hl; subst hl; exact ⟨z2v 0, h⟩
 | some x => exact h
theorem zdm (o n : Nat) : zye o n = o + n := by
 unfold zye
 cases h : z14 n 0 with
 | true => have := z18 h; subst this; rfl
 | false => rfl
theorem za1 (b o n : Nat) : (⟨b, o, none⟩ : Addr).add n = ⟨b, o + n, none⟩ := by
 unfold Addr.add
 split
 · rename_i h; subst h; rfl
 · rfl
def YP (P : Program) (t : List Value) (o : Oper) (v : Value) : Prop := ∀ w, (execOp (ev t) o).run P w = .ok (.value v) w
theorem zw8 {K : Value → Prop} {n : Next} (h : zw9 K n) : ∃ v, n = .value v ∧ K v := by
 cases n <;> simp only [zw9] at h
 exact ⟨_, rfl, h⟩
theorem zol {t : List Value} {o : Oper} {K : Value → Prop} (h : XWp P (execOp (ev t) o) (zw9 K)) : ∃ v, K v ∧ YP P t o v := by
 obtain ⟨n, hn, hr⟩ := XWp.sound h
 obtain ⟨v, rfl, hv⟩ := zw8 hn
 exact ⟨v, hv, hr⟩
theorem int_run {op : BinOp} {k : IntKind} {x y : Int} {K : Value → Prop} (T : TypeId) (hop : op ≠ .shl ∧ op ≠ .shr) (h : intK op k x y K) :
 ∃ v, K v ∧ ∀ w, (binOp op T (.int k x) (.int k y)).run P w = .ok v w := by
 cases op <;> simp only [intK] at h <;>
  first
   | exact absurd rfl hop.1
   | exact absurd rfl hop.2
   | (refine ⟨_, h, fun w => ?_⟩; simp [binOp, Op.intArith, Op.intCmp, Op.intBits]; done)
   | (refine ⟨_, h.2, fun w => ?_⟩; simp [binOp, Op.intDiv, h.1]; done)
   | (refine ⟨_, h, fun w => ?_⟩; rfl)
theorem str_run {op : BinOp} {x y : ByteArray} {K : Value → Prop} (T : TypeId) (h : strK op x y K) :
 ∃ v, K v ∧ ∀ w, (binOp op T (.string x) (.string y)).run P w = .ok v w := by
 cases op <;> simp only [strK] at h <;>
  first
   | exact h.elim
   | (refine ⟨_, h, fun w => ?_⟩; simp [binOp, Op.stringOp]; done)
   | (refine ⟨_, h.2, fun w => ?_⟩; have := h.1; have hm : IntKind.i64.max = 9223372036854775807 := (by rfl); simp only [binOp, Op.stringOp]; rw [if_neg (by rw [hm]; omega)]; rfl)
theorem zbi {op : BinOp} {T : TypeId} {x y : Operand} {a b : Value} (ha : ∀ cs, a ≠ .agg cs) (hn : a ≠ .nilIface) (w : World) : (eqGuard op T x y a b).run P w = .ok () w := by
 unfold eqGuard
 cases op <;> first | rfl | (cases a <;> first | rfl | exact absurd rfl (ha _) | exact absurd rfl hn)
theorem zie {op : BinOp} {T : TypeId} {x y : Value} {z : Bool} {K : Value → Prop} (hsh : ∀ w, (Op.equal T x y).run P w = .ok z w)
 (hx : (∃ a, x = .pointer a) ∨ (∃ a n c, x = .slice a n c) ∨ (∃ a, x = .map a) ∨ (∃ a, x = .bool a) ∨ (∃ a, x = .agg a))
 (hy : (∃ a, y = .pointer a) ∨ (∃ a n c, y = .slice a n c) ∨ (∃ a, y = .map a) ∨ (∃ a, y = .bool a) ∨ (∃ a, y = .agg a)) (h : zeq op z K) :
 ∃ v, K v ∧ ∀ w, (binOp op T x y).run P w = .ok v w := by
 cases op <;> simp only [zeq] at h
 case eql =>
  refine ⟨_, h, fun w => ?_⟩
  rcases hx with ⟨a, rfl⟩ | ⟨a, n, c, rfl⟩ | ⟨a, rfl⟩ | ⟨a, rfl⟩ | ⟨a, rfl⟩ <;> rcases hy with ⟨b, rfl⟩ | ⟨b, n', c', rfl⟩ | ⟨b, rfl⟩ | ⟨b, rfl⟩ | ⟨b, rfl⟩ <;> simp [binOp, hsh]
 case neq =>
  refine ⟨_, h, fun w => ?_⟩
  rcases hx with ⟨a, rfl⟩ | ⟨a, n, c, rfl⟩ | ⟨a, rfl⟩ | ⟨a, rfl⟩ | ⟨a, rfl⟩ <;> rcases hy with ⟨b, rfl⟩ | ⟨b, n', c', rfl⟩ | ⟨b, rfl⟩ | ⟨b, rfl⟩ | ⟨b, rfl⟩ <;> simp [binOp, hsh]
theorem ze2 {T : TypeId} {d : TypeDesc} (h : P.underlying T = some d) (hd : (match d with | .struct _ | .array _ _ => true | _ => false) = false) (w : World) :
 (isAgg T).run P w = .ok false w := by
 simp only [isAgg, Sem.run_bind, run_underlying h, z2h]
 cases d <;> simp at hd <;> rfl
theorem zeg {T : TypeId} (hT : (match P.underlying T with | some .bool | some (.int _) | some .string => true | _ => false) = true) {xs : Array Value} {i : Nat} {v : Value}
 (hv : xs[i]? = some v) (w : World) : (part T xs i).run P w = .ok v w := by
 have h1 : (isAgg T).run P w = .ok false w := by
  cases hu : P.underlying T with
  | none => simp [hu] at hT
  | some d => exact ze2 hu (by cases d <;> simp [hu] at hT <;> rfl) w
 simp only [part, Sem.run_bind, h1, z2h, z3n, if_false, hv]
 rfl
theorem run_eqV {T : TypeId} {a b : Value} {c : Bool} (d : Nat) (hT : (match P.underlying T with | some .bool | some (.int _) | some .string => true | _ => false) = true)
 (hw : (match P.underlying T, a with | some .bool, .bool _ => true | some (.int _), .int _ _ => true | some .string, .string _ => true | _, _ => false) = true) (h : eqV a b = some c) (w : World) :
 (Op.equalIn (d + 1) T a b).run P w = .ok c w := by
 cases hu : P.underlying T with
 | none => simp [hu] at hT
 | some e =>
   cases a <;> cases b <;> simp only [eqV] at h <;> try cases h
   · cases e <;> simp [hu] at hw
     exact run_equalIn_bool' w d T _ _ hu
   · rename_i k x k' y
     cases e <;> simp [hu] at hw
     cases hk : z14 (zap k) (zap k') with
     | false => rw [hk] at h; cases h
     | true =>
       rw [hk] at h
       obtain rfl := zcr (z18 hk)
       cases h; exact run_equalIn_int w d T _ _ _ _ hu
   · cases e <;> simp [hu] at hw
     exact run_equalIn_string w d T _ _ hu
theorem ziw (d : Nat) (w : World) : ∀ (fs : List Field) (i : Nat) (xs ys : Array Value) (l m : List Value) (c : Bool), flat P fs i = true → fits P fs l = true →
 (∀ j v, l[j]? = some v → xs[i + j]? = some v) → (∀ j v, m[j]? = some v → ys[i + j]? = some v) → l.length = fs.length → m.length = fs.length →
 eqL l m = some c → (Op.eqFields (d + 1) xs ys fs).run P w = .ok c w
 | [], i, xs, ys, l, m, c, _, _, _, _, hl, hm, he => by
   cases l with
   | cons a l => simp at hl
   | nil => cases m with
     | cons a l => simp at hm
     | nil => simp only [eqL, Option.some.injEq] at he; subst he; simp [Op.eqFields]
 | f :: fs, i, xs, ys, l, m, c, hf, hk, h1, h2, hl, hm, he => by
   cases l with
   | nil => simp at hl
   | cons a l => cases m with
     | nil => simp at hm
     | cons b m =>
       simp only [flat, z17, beq_iff_eq, bne_iff_ne] at hf
       simp only [fits, z17] at hk
       obtain ⟨⟨⟨ho, hn⟩, hT⟩, hr⟩ := hf
       simp only [eqL] at he
       cases hab : eqV a b with
       | none => simp [hab] at he
       | some x => cases hlm : eqL l m with
         | none => simp [hab, hlm] at he
         | some y =>
           simp only [hab, hlm, Option.some.injEq] at he
           have hx := run_eqV (P := P) d hT hk.1 hab w
           have pa := zeg (P := P) hT (h1 0 a rfl) w
           have pb := zeg (P := P) hT (h2 0 b rfl) w
           simp only [z4b] at pa pb
           have ih := ziw d w fs (i + 1) xs ys l m y hr hk.2 (fun j v hv => by have := h1 (j + 1) v (by simpa using hv); rw [← this]; congr 1; omega)
            (fun j v hv => by have := h2 (j + 1) v (by simpa using hv); rw [← this]; congr 1; omega) (by simpa using hl) (by simpa using hm) hlm
           simp only [Op.eqFields, if_pos hn, Sem.run_bind, ho, pa, pb, hx, z2h, Sem.run_ite]
           cases x
           · simp only [z47, if_true, Sem.run_pure]; subst he; rfl
           · simp only [z3s, z3n, if_false]; subst he; rw [ih]; rfl
theorem zl9 {T : TypeId} {fs : Array Field} {xs ys : Array Value} {c : Bool} (hu : P.underlying T = some (.struct fs)) (hp : P.stoodInHeld T = false) (hf : flat P fs.toList 0 = true)
 (hk : fits P fs.toList xs.toList = true) (hl : xs.size = fs.size) (hm : ys.size = fs.size) (he : eqL xs.toList ys.toList = some c) (w : World) : (Op.equal T (.agg xs) (.agg ys)).run P w = .ok c w := by
 have hfo : P.fieldsOf T = fs := by simp [Program.fieldsOf, hu]
 unfold Op.equal Op.maxDepth
 rw [show (10000 : Nat) = 9998 + 1 + 1 from rfl, run_equalIn_struct w (9998 + 1) T xs ys (by rw [hfo]; exact hu) hp, hfo]
 refine ziw 9998 w fs.toList 0 xs ys xs.toList ys.toList c hf hk ?_ ?_ (by simpa using hl) (by simpa using hm) he
 · intro j v hv; simpa using hv
 · intro j v hv; simpa using hv
theorem zzh (d : Nat) {T e : TypeId} (hu : P.underlying T = some (.pointer e)) (p : Option Addr) (w : World) : (Op.equalIn (d + 1) T (.pointer p) (.pointer none)).run P w = .ok p.isNone w := by
 simp only [Op.equalIn, Sem.run_bind, run_underlying hu, z2h]
 cases p <;> rfl
theorem run_eqSl (d : Nat) {T e : TypeId} (hu : P.underlying T = some (.slice e)) (p : Option Addr) (n c n' c' : Nat) (w : World) : (Op.equalIn (d + 1) T (.slice p n c) (.slice none n' c')).run P w = .ok p.isNone w := by
 simp only [Op.equalIn, Sem.run_bind, run_underlying hu, z2h]
 cases p <;> rfl
theorem zzj (d : Nat) {T k e : TypeId} (hu : P.underlying T = some (.map k e)) (p : Option Nat) (w : World) : (Op.equalIn (d + 1) T (.map p) (.map none)).run P w = .ok p.isNone w := by
 simp only [Op.equalIn, Sem.run_bind, run_underlying hu, z2h]
 cases p <;> rfl
theorem zl1 {op : BinOp} {T : TypeId} {x y : Operand} {a b : Value} {K : Value → Prop} (h : zub P op T a b K) :
 ∃ v, K v ∧ ∀ w, (do eqGuard op T x y a b; binOp op T a b : Sem Value).run P w = .ok v w := by
 unfold zub at h
 split at h
 · rename_i k p k' q
   have hg : ∀ w, (eqGuard op T x y (.int k p) (.int k' q)).run P w = .ok () w := zbi (by simp) (by simp)
   split at h
   · obtain ⟨h0, hK⟩ := h
     refine ⟨_, hK, fun w => ?_⟩
     simp only [Sem.run_bind, hg, z2h]
     simp [binOp, Op.shift, show ¬ q < 0 by omega]
   · obtain ⟨h0, hK⟩ := h
     refine ⟨_, hK, fun w => ?_⟩
     simp only [Sem.run_bind, hg, z2h]
     simp [binOp, Op.shift, show ¬ q < 0 by omega]
   · rename_i n1 n2
     obtain ⟨hk, h2⟩ := zek h
     · subst hk
       obtain ⟨v, hv, hr⟩ := int_run (P := P) T ⟨n1, n2⟩ h2
       exact ⟨v, hv, fun w => by simp only [Sem.run_bind, hg, z2h, hr]⟩
 · obtain ⟨v, hv, hr⟩ := str_run (P := P) T h
   exact ⟨v, hv, fun w => by simp only [Sem.run_bind, zbi (P := P) (a := .string _) (by simp) (by simp), z2h, hr]⟩
 · split at h
   · rename_i hu
     obtain ⟨v, hv, hr⟩ := zie (P := P) (T := T) (fun w => run_equalIn_bool' w 9999 T _ _ hu) (.inr (.inr (.inr (.inl ⟨_, rfl⟩)))) (.inr (.inr (.inr (.inl ⟨_, rfl⟩)))) h
     exact ⟨v, hv, fun w => by simp only [Sem.run_bind, zbi (P := P) (a := .bool _) (by simp) (by simp), z2h, hr]⟩
   · exact h.elim
 · rename_i p
   split at h
   · rename_i hu
     obtain ⟨v, hv, hr⟩ := zie (P := P) (T := T) (x := .pointer p) (y := .pointer none) (fun w => zzh 9999 hu p w) (.inl ⟨_, rfl⟩) (.inl ⟨_, rfl⟩) h
     exact ⟨v, hv, fun w => by simp only [Sem.run_bind, zbi (P := P) (a := .pointer _) (by simp) (by simp), z2h, hr]⟩
   · exact h.elim
 · rename_i p n c n' c'
   split at h
   · rename_i hu
     obtain ⟨v, hv, hr⟩ := zie (P := P) (T := T) (x := .slice p n c) (y := .slice none n' c') (fun w => run_eqSl 9999 hu p n c n' c' w) (.inr (.inl ⟨_, _, _, rfl⟩)) (.inr (.inl ⟨_, _, _, rfl⟩)) h
     exact ⟨v, hv, fun w => by simp only [Sem.run_bind, zbi (P := P) (a := .slice ..) (by simp) (by simp), z2h, hr]⟩
   · exact h.elim
 · rename_i p
   split at h
   · rename_i hu
     obtain ⟨v, hv, hr⟩ := zie (P := P) (T := T) (x := .map p) (y := .map none) (fun w => zzj 9999 hu p w) (.inr (.inr (.inl ⟨_, rfl⟩))) (.inr (.inr (.inl ⟨_, rfl⟩))) h
     exact ⟨v, hv, fun w => by simp only [Sem.run_bind, zbi (P := P) (a := .map _) (by simp) (by simp), z2h, hr]⟩
   · exact h.elim
 · rename_i xs ys
   split at h
   · rename_i fs hu
     obtain ⟨hc, h⟩ := zaa h
     · obtain ⟨hc2, h⟩ := zaa h
       simp only [z17, z2u] at hc hc2
       obtain ⟨⟨hf, hp⟩, hq⟩ := hc
       obtain ⟨⟨hk, hl⟩, hm⟩ := hc2
       have hl : xs.size = fs.size := by simpa using z18 hl
       have hm : ys.size = fs.size := by simpa using z18 hm
       split at h
       · rename_i c he
         have hg : ∀ w, (eqGuard op T x y (.agg xs) (.agg ys)).run P w = .ok () w := by
          intro w
          unfold eqGuard
          cases op <;> first | rfl | (simp [hq]; done) | (simp [hq]; rfl)
         obtain ⟨v, hv, hr⟩ := zie (P := P) (T := T) (x := .agg xs) (y := .agg ys) (zl9 hu hp hf hk hl hm he) (.inr (.inr (.inr (.inr ⟨_, rfl⟩)))) (.inr (.inr (.inr (.inr ⟨_, rfl⟩)))) h
         exact ⟨v, hv, fun w => by simp only [Sem.run_bind, hg, z2h, hr]⟩
       · exact h.elim
   · exact h.elim
 · exact h.elim
theorem zao {T : TypeId} {i : TypeInfo} (h : P.info? T = some i) (w : World) : (sizeOf T).run P w = .ok i.size w := by
 simp [sizeOf, run_typeInfo w h]
theorem zbm {T : TypeId} (h : zaj P T ≠ 0) : ∃ i, P.info? T = some i ∧ i.size = zaj P T := by
 unfold zaj at *
 cases hi : P.info? T with
 | none => simp [hi] at h
 | some i => exact ⟨i, rfl, by simp⟩
theorem zbs {T e : TypeId} {a : Option Addr} {n c b o : Nat} {k : IntKind} {z : Int} (hu : P.underlying T = some (.slice e)) (h0 : 0 ≤ z) (h1 : z < n) (ha : a = some ⟨b, o, none⟩) (hs : zaj P e ≠ 0) (w : World) :
 (Instr.indexAt T (.slice a n c) (.int k z)).run P w = .ok (.pointer (some ⟨b, o + z.toNat * zaj P e, none⟩)) w := by
 subst ha
 obtain ⟨i, hi, his⟩ := zbm hs
 simp [Instr.indexAt, asIntOf, run_underlying hu, zao hi, his, h0, h1, za1]
theorem zbe {T e : TypeId} {a : Option Addr} {n b o : Nat} {k : IntKind} {z : Int} (hu : P.underlying T = some (.array n e)) (h0 : 0 ≤ z) (h1 : z < n) (ha : a = some ⟨b, o, none⟩) (hs : zaj P e ≠ 0) (w : World) :
 (Instr.indexAt T (.pointer a) (.int k z)).run P w = .ok (.pointer (some ⟨b, o + z.toNat * zaj P e, none⟩)) w := by
 subst ha
 obtain ⟨i, hi, his⟩ := zbm hs
 simp [Instr.indexAt, asIntOf, Instr.sureAddr, run_underlying hu, zao hi, his, h0, h1, za1]
theorem zbw {v : Value} {k : IntKind} {i : Int} (hv : v = .int k i) {y : Nat} (h0 : 0 ≤ i) (h1 : i ≤ y) (code : BoundsCode) (w : World) : (Instr.sliceBound v y code).run P w = .ok i.toNat w := by
 subst hv
 simp [Instr.sliceBound, asIntOf, h0, h1]
theorem zft {t : List Value} {lo hi : Option Operand} {n c : Nat} {l r : Int} (sl : Bool) (hl : bnd t lo 0 = some l) (hr : bnd t hi n = some r) (h0 : 0 ≤ l) (h1 : l ≤ r) (h2 : r ≤ c) (w : World) :
 (Instr.sliceBounds sl n c (lo.map (ev t)) (hi.map (ev t)) none).run P w = .ok (l.toNat, r.toNat, c) w := by
 have H : ∀ (x : Option Operand) (d : Int) (i : Int), bnd t x d = some i → (x = none ∧ i = d) ∨ ∃ o k, x = some o ∧ ev t o = .int k i := by
  intro x d i h
  cases x with
  | none => simp [bnd] at h; exact .inl ⟨rfl, h.symm⟩
  | some o =>
    simp only [bnd] at h
    split at h
    · rename_i k z hz; simp at h; subst h; exact .inr ⟨o, k, rfl, hz⟩
    · cases h
 rcases H _ _ _ hl with ⟨rfl, rfl⟩ | ⟨ol, kl, rfl, hel⟩ <;> rcases H _ _ _ hr with ⟨rfl, rfl⟩ | ⟨oh, kh, rfl, heh⟩
 · simp [Instr.sliceBounds]
 · simp [Instr.sliceBounds, zbw (P := P) heh (show 0 ≤ r by omega) h2]
 · simp [Instr.sliceBounds, zbw (P := P) hel h0 (show l ≤ (n : Nat) by omega)]
 · simp [Instr.sliceBounds, zbw (P := P) heh (show 0 ≤ r by omega) h2, zbw (P := P) hel h0 (show l ≤ (r.toNat : Nat) by omega)]
theorem zs8 {t : List Value} {lo hi : Option Operand} {mx : Operand} {n c : Nat} {l r m : Int} (sl : Bool) (hh : hi.isSome = true) (hl : bnd t lo 0 = some l) (hr : bnd t hi n = some r) (hm : bnd t (some mx) 0 = some m) (h0 : 0 ≤ l) (h1 : l ≤ r) (h2 : r ≤ m) (h3 : m ≤ c) (w : World) :
 (Instr.sliceBounds sl n c (lo.map (ev t)) (hi.map (ev t)) (some (ev t mx))).run P w = .ok (l.toNat, r.toNat, m.toNat) w := by
 have H : ∀ (x : Option Operand) (d : Int) (i : Int), bnd t x d = some i → (x = none ∧ i = d) ∨ ∃ o k, x = some o ∧ ev t o = .int k i := by
  intro x d i h
  cases x with
  | none => simp [bnd] at h; exact .inl ⟨rfl, h.symm⟩
  | some o =>
    simp only [bnd] at h
    split at h
    · rename_i k z hz; simp at h; subst h; exact .inr ⟨o, k, rfl, hz⟩
    · cases h
 obtain ⟨hN, -⟩ | ⟨om, km, hom, hem⟩ := H _ _ _ hm
 · cases hN
 cases hom
 rcases H _ _ _ hl with ⟨rfl, rfl⟩ | ⟨ol, kl, rfl, hel⟩ <;> rcases H _ _ _ hr with ⟨rfl, rfl⟩ | ⟨oh, kh, rfl, heh⟩
 · simp at hh
 · simp [Instr.sliceBounds, zbw (P := P) hem (show 0 ≤ m by omega) h3, zbw (P := P) heh (show 0 ≤ r by omega) (show r ≤ (m.toNat : Nat) by omega)]
 · simp at hh
 · simp [Instr.sliceBounds, zbw (P := P) hem (show 0 ≤ m by omega) h3, zbw (P := P) heh (show 0 ≤ r by omega) (show r ≤ (m.toNat : Nat) by omega), zbw (P := P) hel h0 (show l ≤ (r.toNat : Nat) by omega)]
theorem zbg (l : List Value) (o : Nat) : zar l o [] = l := by cases l <;> cases o <;> rfl
theorem zef : ∀ (l : List Value) (o : Nat) (v : Value) (vs : List Value), o < l.length → zar l o (v :: vs) = zar (l.set o v) (o + 1) vs
 | [], _, _, _, h => by simp at h
 | x :: l, 0, v, [], _ => by simp [zar, zbg]
 | x :: l, 0, v, u :: vs, _ => by simp [zar]
 | x :: l, o + 1, v, [], h => by
   simp only [zar, List.set_cons_succ]
   rw [zef l o v [] (by simpa using h)]
   simp [zbg]
 | x :: l, o + 1, v, u :: vs, h => by
   simp only [zar, List.set_cons_succ]
   rw [zef l o v (u :: vs) (by simpa using h)]
theorem zas : ∀ (l : List Value) (o : Nat) (vs : List Value), (zar l o vs).length = l.length
 | l, o, [] => by rw [zbg]
 | [], o, v :: vs => by simp [zar]
 | x :: l, 0, v :: vs => by simp [zar, zas l 0 vs]
 | x :: l, o + 1, v :: vs => by simp [zar, zas l o (v :: vs)]
theorem zlm : ∀ (vs : List Value) (l : List Value) (o k : Nat), o + k + vs.length ≤ l.length →
 (vs.zipIdx k).foldl (fun (cs : Array Value) (x : Value × Nat) => cs.setIfInBounds (o + x.2) x.1) l.toArray = (zar l (o + k) vs).toArray
 | [], l, o, k, _ => by simp [zbg]
 | v :: vs, l, o, k, h => by
   simp only [z2o] at h
   rw [List.zipIdx_cons, List.foldl_cons, List.setIfInBounds_toArray, zlm vs _ o (k + 1) (by simp; omega), zef _ _ _ _ (by omega)]
   rfl
theorem zhm {place : Nat → Option (Nat × Nat)} : ∀ {ps : List (Nat × Value)} {l l' : List Value}, zlo place l ps = some l' → Instr.fill place l.toArray ps = some l'.toArray
 | [], l, l', h => by simp only [zlo, Option.some.injEq] at h; subst h; rfl
 | (i, v) :: ps, l, l', h => by
   simp only [zlo] at h
   cases hp : place i with
   | none => rw [hp] at h; cases h
   | some os =>
     obtain ⟨o, s⟩ := os
     rw [hp] at h
     simp only at h
     cases hc : (z14 v.cells.toList.length s && z19 (o + v.cells.toList.length) l.length) with
     | false => rw [hc] at h; cases h
     | true =>
       rw [hc] at h
       rw [z17] at hc
       have h1 : v.cells.size = s := by simpa using z18 hc.1
       have h2 : o + v.cells.toList.length ≤ l.length := z2w hc.2
       have h3 : o + v.cells.size ≤ l.length := by simpa using h2
       unfold Instr.fill
       rw [hp]
       simp only [h1, ne_eq, not_true_eq_false, decide_false, Bool.false_or]
       rw [if_neg (by simp; omega)]
       have key := zlm v.cells.toList l o 0 (by simpa using h2)
       rw [← Array.foldl_toList, Array.toList_zipIdx]
       rw [key]
       exact zhm h
theorem zw0 (fs : List Field) (h : zio P fs = true) (w : World) :
 (fs.mapM (m := Sem) fun f => do pure (f.offset, ← sizeOf f.type)).run P w = .ok (fs.map fun f => (f.offset, zaj P f.type)) w := by
 induction fs with
 | nil => rfl
 | cons f fs ih =>
   simp only [zio, z17, z2u] at h
   obtain ⟨i, hi, hs⟩ := zbm (P := P) (T := f.type) (fun h0 => by rw [h0] at h; simp at h)
   simp only [z48, Sem.run_bind, zao hi, z2h, Sem.run_pure, ih h.2, hs]
   rfl
theorem zh7 {t : List Value} {o : Oper} {K : Value → Prop} (h : ze7 P t o K) : ∃ v, K v ∧ YP P t o v := by
 obtain ⟨dst, op, ty, pos, after, guard⟩ := o
 cases op <;> simp only [ze7] at h
 case move x => exact ⟨_, h, fun w => rfl⟩
 case assign x => exact ⟨_, h, fun w => rfl⟩
 case pick c a b =>
  unfold pickK at h
  split at h
  · rename_i c' x y hc ha hb
    refine ⟨_, h, fun w => ?_⟩
    simp only [execOp, hc, ha, hb]
    cases c' <;> rfl
  · rename_i c' hno hc
    cases c'
    · exact ⟨_, h, fun w => by simp [execOp, hno, asBool]⟩
    · exact ⟨_, h, fun w => by simp [execOp, hno, asBool]⟩
  · exact h.elim
 case nilCheck x =>
  split at h
  · rename_i a ha
    obtain ⟨b, o, rfl, hK⟩ := za8 h
    exact ⟨_, hK, fun w => by simp [execOp, ha]⟩
  · rename_i f a b ha
    exact ⟨_, h, fun w => by simp [execOp, ha]⟩
  · exact h.elim
 case binOp op' T x y yt =>
  obtain ⟨v, hv, hr⟩ := zl1 (x := x) (y := y) h
  exact ⟨v, hv, fun w => by
   have := hr w
   simp only [execOp]
   rw [Sem.run_bind, this]
   rfl⟩
 case fieldAddr s x f =>
  split at h
  · rename_i fs a hu ha
    split at h
    · rename_i fd hfd
      obtain ⟨hz, h⟩ := zb8 h
      · obtain ⟨b, o, rfl, hK⟩ := za8 h
        obtain ⟨i, hi, his⟩ := zbm hz
        refine ⟨_, hK, fun w => ?_⟩
        simp [execOp, Instr.fieldAt, ha, run_underlying hu, hfd, Instr.sureAddr, fieldPlace, zao hi, his, hz, za1, zdm]
    · exact h.elim
  · exact h.elim
 case indexAddr T x i =>
  split at h
  · rename_i e a n c k z hu ha hz
    obtain ⟨b, o, ho, h0, h1, hK⟩ := za8 h
    obtain ⟨hs, hK⟩ := zb8 hK
    exact ⟨_, hK, fun w => by simp [execOp, ha, hz, zbs hu h0 h1 ho hs]⟩
  · rename_i n e a k z hu ha hz
    obtain ⟨b, o, ho, h0, h1, hK⟩ := za8 h
    obtain ⟨hs, hK⟩ := zb8 hK
    exact ⟨_, hK, fun w => by simp [execOp, ha, hz, zbe hu h0 h1 ho hs]⟩
  · exact h.elim
 case index T x i =>
  split at h
  · rename_i s k z hu ha hz
    obtain ⟨h0, h1, hK⟩ := h
    refine ⟨_, hK, fun w => ?_⟩
    have hlt : z.toNat < s.size := by omega
    have hg : s[z.toNat]? = some (s.data.getD z.toNat 0) := by
     rw [getElem?_pos s z.toNat hlt]
     have : s.data.size = s.size := rfl
     simp [Array.getD, this, hlt]
     rfl
    simp [execOp, Instr.index, ha, hz, asIntOf, run_underlying hu, h0, hg]
  · exact zol h
 case build T ps =>
  split at h
  · rename_i fs i hu hi
    split at h
    · rename_i cs hz
      obtain ⟨hl, h⟩ := zaa h
      split at h
      · rename_i l hf
        refine ⟨_, h, fun w => ?_⟩
        have hzero : (zeroValue T).run P w = .ok (.agg cs) w := by simp [zeroValue, run_typeInfo w hi, hz]
        have hpl : (fs.mapM (m := Sem) fun f => do pure (f.offset, ← sizeOf f.type)).run P w = .ok ((fs.toList.map fun f => (f.offset, zaj P f.type)).toArray) w := by
         rw [z6i, Sem.run_map, zw0 _ hl w]; rfl
        have hfn : (fun i => ((fs.toList.map fun f => (f.offset, zaj P f.type)).toArray)[i]?) = zia P fs.toList := by
         funext j
         simp only [zia, z3o, z2i]
         cases fs.toList[j]? <;> rfl
        have hpa : (ps.map fun (x : Nat × Operand) => (x.1, ev t x.2)).toList = ps.toList.map fun p => (p.1, ev t p.2) := by simp
        have hfill := zhm hf
        simp only [z3y] at hfill
        simp only [execOp, Instr.build, Sem.run_bind, hzero, z2h, run_underlying hu, hpl]
        show Result.andThen (Sem.run P (match Instr.fill (fun i => ((fs.toList.map fun f => (f.offset, zaj P f.type)).toArray)[i]?) (Value.agg cs).cells (ps.map fun (x : Nat × Operand) => (x.1, ev t x.2)).toList with
         | some cells => pure (Value.agg cells) | _ => stuck "build: no such field, or a part of the wrong size") w) _ = _
        rw [hfn, hpa]
        show Result.andThen (Sem.run P (match Instr.fill (zia P fs.toList) cs (ps.toList.map fun p => (p.1, ev t p.2)) with
         | some cells => pure (Value.agg cells) | _ => stuck "build: no such field, or a part of the wrong size") w) _ = _
        rw [hfill]
        rfl
      · exact h.elim
    · exact h.elim
  · exact zol h
 case slice T x lo hi mx =>
  split at h
  · rename_i e a n c hu ha
    split at h
    · rename_i l r hl hr
      obtain ⟨h0, h1, h2, hK⟩ := zby hl h
      obtain ⟨hs, hK⟩ := zb8 hK
      rw [zux _ _ _ _ hs, zez, zez] at hK
      obtain ⟨i, hi', his⟩ := zbm hs
      refine ⟨_, hK, fun w => ?_⟩
      have hb := zft (P := P) (t := t) (n := n) (c := c) true hl hr h0 h1 h2
      simp [execOp, Instr.sliceAt, Instr.slice, ha, run_underlying hu, hb, zao hi', his]
    · exact h.elim
  · rename_i s hu ha
    split at h
    · rename_i l r hl hr
      obtain ⟨h0, h1, h2, hK⟩ := zby hl h
      refine ⟨_, hK, fun w => ?_⟩
      have hb := zft (P := P) (t := t) (n := s.size) (c := s.size) false hl hr h0 h1 h2
      simp [execOp, Instr.sliceAt, Instr.slice, ha, run_underlying hu, hb]
    · exact h.elim
  · rename_i e a n c mx hu ha
    split at h
    · rename_i l r m hl hr hm
      obtain ⟨hh, h⟩ := zaa h
      obtain ⟨h0, h1, h2, h3, hK⟩ := zby hl h
      obtain ⟨hs, hK⟩ := zb8 hK
      rw [zux _ _ _ _ hs, zez, zez] at hK
      obtain ⟨i, hi', his⟩ := zbm hs
      refine ⟨_, hK, fun w => ?_⟩
      have hb := zs8 (P := P) (t := t) (n := n) (c := c) true hh hl hr hm h0 h1 h2 h3
      simp [execOp, Instr.sliceAt, Instr.slice, ha, run_underlying hu, hb, zao hi', his]
    · exact h.elim
  · rename_i A a hu ha
    split at h
    · rename_i n e hA
      split at h
      · rename_i l r hl hr
        obtain ⟨b, o, rfl, h⟩ := za8 h
        obtain ⟨h0, h1, h2, hK⟩ := zby hl h
        obtain ⟨hs, hK⟩ := zb8 hK
        rw [zux _ _ _ _ hs, zez, zez] at hK
        obtain ⟨i, hi', his⟩ := zbm hs
        refine ⟨_, hK, fun w => ?_⟩
        have hb := zft (P := P) (t := t) (n := n) (c := n) false hl hr h0 h1 h2
        simp [execOp, Instr.sliceAt, Instr.slice, ha, run_underlying hu, run_underlying hA, hb, zao hi', his, asAddr]
        by_cases hc : n = l.toNat <;> simp [hc]
      · exact h.elim
    · exact h.elim
  · rename_i n e a hu ha
    split at h
    · rename_i l r hl hr
      obtain ⟨b, o, rfl, h⟩ := za8 h
      obtain ⟨h0, h1, h2, hK⟩ := zby hl h
      obtain ⟨hs, hK⟩ := zb8 hK
      rw [zux _ _ _ _ hs, zez, zez] at hK
      obtain ⟨i, hi', his⟩ := zbm hs
      refine ⟨_, hK, fun w => ?_⟩
      have hb := zft (P := P) (t := t) (n := n) (c := n) false hl hr h0 h1 h2
      simp [execOp, Instr.sliceAt, Instr.sureAddr, ha, run_underlying hu, hb, zao hi', his]
      by_cases hc : n = l.toNat <;> simp [hc]
    · exact h.elim
  · exact h.elim
 all_goals exact zol h
end
section
variable {P : Program}
theorem Sh.Ex_spec {y : Sh} {f : Value → Prop} (h : y.Ex f) : ∃ v, f v := by
 cases y <;> simp only [Sh.Ex] at h
 case sl => obtain ⟨a, n, c, h⟩ := h; exact ⟨_, h⟩
 all_goals (obtain ⟨x, h⟩ := h; exact ⟨_, h⟩)
theorem zv4 : ∀ {l : List Value} {f : List Value → Prop}, exL l f → ∃ vs, f vs
 | [], _, h => ⟨[], h⟩
 | _ :: _, _, h => let ⟨_, h1⟩ := Sh.Ex_spec h; let ⟨_, h2⟩ := zv4 h1; ⟨_, h2⟩
theorem zjl {z : Value} {f : Value → Prop} (h : exE z f) : ∃ v, f v := by
 unfold exE at h
 split at h
 · obtain ⟨vs, h⟩ := zv4 h; exact ⟨_, h⟩
 · exact Sh.Ex_spec h
theorem zv3 : ∀ {l : List Value} {f : List Value → Prop}, exT l f → ∃ vs, f vs
 | [], _, h => ⟨[], h⟩
 | _ :: _, _, h => let ⟨_, h1⟩ := zjl h; let ⟨_, h2⟩ := zv3 h1; ⟨_, h2⟩
theorem zv2 {z : Value} {f : Value → Prop} (h : exZ z f) : ∃ v, f v := by
 unfold exZ at h
 split at h
 · obtain ⟨vs, h⟩ := zv3 h; exact ⟨_, h⟩
 · exact zjl h
theorem zdp {T : TypeId} {K : Value → zac → Prop} {v : Value} {h : zac} (hh : zqb P T K v h) : K v h := by
 obtain ⟨v', rfl, hK⟩ := zv2 hh
 exact hK
def YR (P : Program) (t : List Value) (o : Oper) (h : zac) (v : Value) : Prop := ∀ w : World, w.heap = h → (execOp (ev t) o).run P w = .ok (.value v) w
theorem zdz {T : TypeId} {z : Value} (h : zcv P T = some (.one z)) : (∀ w, (isAgg T).run P w = .ok false w) ∧ single z = true ∧ ∃ i, P.info? T = some i ∧ i.size = 1 := by
 unfold zcv at h
 split at h
 · split at h <;> (try split at h) <;> simp at h
 · split at h <;> (try split at h) <;> simp at h
 · rename_i d i n1 n2 hu hi
   split at h
   · rename_i z' hz
     split at h
     · rename_i hs
       simp at h; subst h
       exact ⟨fun w => ze2 hu (by cases d <;> first | rfl | exact absurd rfl (n1 _) | exact absurd rfl (n2 _ _)) w, hs.1, i, hi, hs.2⟩
     · cases h
   · cases h
 · cases h
theorem zcq {T : TypeId} {cs : List Value} (h : zcv P T = some (.many cs)) : (∀ w, (isAgg T).run P w = .ok true w) ∧ ∃ i, P.info? T = some i ∧ i.size = cs.length := by
 unfold zcv at h
 split at h
 · rename_i fs i hu hi
   split at h
   · rename_i cs' hz
     split at h
     · rename_i hs
       simp at h; subst h
       exact ⟨fun w => by simp [isAgg, run_underlying hu], i, hi, by simpa using hs.symm⟩
     · cases h
   · cases h
 · rename_i n e i hu hi
   split at h
   · rename_i cs' hz
     split at h
     · rename_i hs
       simp at h; subst h
       exact ⟨fun w => by simp [isAgg, run_underlying hu], i, hi, by simpa using hs.symm⟩
     · cases h
   · cases h
 · split at h <;> (try split at h) <;> simp at h
 · cases h
theorem znk {h : zac} {b o : Nat} : ∀ {l : List Value} {i : Nat} {K : List Value → Prop}, loadS h b o l i K →
 ∃ vs, vs.length = l.length ∧ (∀ j v, vs[j]? = some v → hcell h ⟨b, o + (i + j), none⟩ = some v) ∧ K vs
 | [], i, K, hh => ⟨[], rfl, fun j v hv => by simp at hv, hh⟩
 | z :: l, i, K, hh => by
   obtain ⟨v, hv, h2⟩ := Sh.Ex_spec hh
   obtain ⟨vs, hl, hc, hK⟩ := znk h2
   refine ⟨v :: vs, by simp [hl], fun j u hu => ?_, hK⟩
   cases j with
   | zero => simp at hu; subst hu; rw [zdm] at hv; simpa using hv
   | succ j => have := hc j u (by simpa using hu); rw [show i + (j + 1) = i + 1 + j by omega]; exact this
theorem znl {T : TypeId} {a : Option Addr} {h : zac} {K : Value → Prop} (hh : zxk P T a h K) :
 ∃ b o v, a = some ⟨b, o, none⟩ ∧ K v ∧ ∀ w : World, w.heap = h → (loadVar T ⟨b, o, none⟩).run P w = .ok v w := by
 unfold zxk at hh
 split at hh
 · rename_i z hl
   obtain ⟨b, o, rfl, h1⟩ := za8 hh
   obtain ⟨v, hv, hK⟩ := Sh.Ex_spec h1
   obtain ⟨ha, -, -⟩ := zdz hl
   refine ⟨b, o, v, rfl, hK, fun w hw => ?_⟩
   have hv' : w.cell? ⟨b, o, none⟩ = some v := by subst hw; exact hv
   simp [loadVar, ha, Go.load, Sem.run, hv']
 · rename_i cs hl
   obtain ⟨b, o, rfl, h1⟩ := za8 hh
   obtain ⟨vs, hlen, hc, hK⟩ := znk h1
   obtain ⟨ha, i, hi, hs⟩ := zcq hl
   refine ⟨b, o, _, rfl, hK, fun w hw => ?_⟩
   have hr : (loadCells ⟨b, o, none⟩ vs.length).run P w = .ok vs.toArray w :=
    run_loadCells_list (P := P) w ⟨b, o, none⟩ vs (fun j v hv => by subst hw; rw [za1]; have := hc j v hv; rw [z2l] at this; exact this)
   simp [loadVar, ha, zao hi, hs, ← hlen, hr]
 · exact hh.elim
theorem zh5 {t : List Value} {o : Oper} {h : zac} {K : Value → Prop} (hh : zz2 P t o h K) : ∃ v, K v ∧ YR P t o h v := by
 obtain ⟨dst, op, ty, pos, after, guard⟩ := o
 cases op <;> simp only [zz2] at hh
 case load T a =>
  split at hh
  · rename_i ad ha
    obtain ⟨b, o, v, rfl, hK, hr⟩ := znl hh
    exact ⟨v, hK, fun w hw => by simp [execOp, Instr.loadAt, Instr.sureAddr, ha, hr w hw]⟩
  · exact hh.elim
 case lookup T m k ok =>
  obtain ⟨v, hK, hr⟩ := PWp.sound hh
  obtain ⟨v', rfl, hK'⟩ := zv2 hK
  exact ⟨v, hK', fun w hw => by simp [execOp, hr w hw]⟩
 case call c =>
  obtain ⟨callee, args, argTypes⟩ := c
  simp only at hh
  split at hh
  · split at hh
    · rename_i x T hx hT
      have hx' : (args.map (ev t))[0]? = some (ev t x) := by rw [Array.getElem?_map, hx]; rfl
      split at hh
      · rename_i s hu hs
        exact ⟨_, hh, fun w hw => by simp [execOp, resolve, invoke, Go.builtin, Builtin.len_, goInt, hT, hx', hs, run_underlying hu]⟩
      · rename_i e a n c hu hs
        exact ⟨_, hh, fun w hw => by simp [execOp, resolve, invoke, Go.builtin, Builtin.len_, goInt, hT, hx', hs, run_underlying hu]⟩
      · rename_i k e r hu hs
        unfold zgk at hh
        split at hh
        · exact ⟨_, hh, fun w hw => by simp [execOp, resolve, invoke, Go.builtin, Builtin.len_, goInt, hT, hx', hs, run_underlying hu]⟩
        · rename_i b
          obtain ⟨es, cl, hm, hK⟩ := hh
          refine ⟨_, hK, fun w hw => ?_⟩
          subst hw
          simp [execOp, resolve, invoke, Go.builtin, Builtin.len_, goInt, hT, hx', hs, run_underlying hu, Go.getObj, Sem.run, hm]
      · exact hh.elim
    · exact hh.elim
  · exact hh.elim
 all_goals exact hh.elim
theorem zrr {t : List Value} {o : Oper} {h : zac} {K : Value → zac → Prop} (hh : SWp P (execOp (ev t) o) h (zkf P K)) {a : Act} (ha : a.eval = ev t) {w : World} (hw : w.heap = h)
 {next : Act → World → Prop} {Q : Exit → Act → World → Prop} (hn : ∀ v w', K v w'.heap → Same w w' → next (a.put o.dst v) w') : o.wp P a w next Q := by
 obtain ⟨n, w', hr, hK, hS⟩ := SWp.sound hh w hw
 unfold Oper.wp
 rw [ha, hr]
 cases n <;> simp only [zkf] at hK
 case value v => exact hn _ _ hK hS
 case skip => exact hn _ _ hK hS
 case enter f args =>
  have h1 := hK.2 w' rfl
  simp only [z3y] at h1
  exact h1.mono fun e w'' ⟨v, he, hv, hS'⟩ => by subst he; exact hn _ _ hv (hS.trans hS')
theorem zbd {b o : Nat} : ∀ {vs : List Value} {i : Nat} {h : zac} {K : zac → Prop}, zdr b o vs i h K → SWp P (storeCells ⟨b, o, none⟩ vs i) h fun _ h' => K h'
 | [], _, _, _, hh => hh
 | v :: vs, i, h, K, hh => by
   obtain ⟨h1, h2, h3, h4⟩ := hh
   unfold storeCells
   refine SWp.bind ?_
   rw [zdm] at h2 h3 h4
   exact ⟨h1, by rw [za1]; exact h2, by rw [za1]; exact h3, by rw [za1]; exact zbd h4⟩
theorem zpy {α : Type} {s : Sem α} {h : zac} {K : α → zac → Prop} {a : α} (_hr : ∀ w, s.run P w = .ok a w) (hx : XWp P s (fun b => b = a)) (hK : K a h) : SWp P s h K := by
 clear _hr
 induction s with
 | pure b => cases hx; exact hK
 | program k ih => exact ih P hx
 | mark m k ih => exact ih hx
 | _ => exact hx.elim
theorem zis {T : TypeId} {i : TypeInfo} (h : P.info? T = some i) : XWp P (sizeOf T) (fun b => b = i.size) := by
 show XWp P (Sem.bind (typeInfo T) _) _
 unfold typeInfo
 show XWp P (Sem.bind (Sem.bind program _) _) _
 simp only [program, Sem.bind, XWp, h]
 rfl
theorem zqg {T : TypeId} {b o : Nat} {v : Value} {h : zac} {K : zac → Prop} {z : Value} (hl : zcv P T = some (.one z)) (hh : stK h ⟨b, o, none⟩ v K) : SWp P (storeVar T ⟨b, o, none⟩ v) h fun _ h' => K h' := by
 obtain ⟨-, -, i, hi, hs⟩ := zdz hl
 unfold storeVar
 refine SWp.bind (zpy (a := i.size) (zao hi) (zis hi) ?_)
 obtain ⟨h1, h2, h3, h4⟩ := hh
 have hc : v.cells = #[v] := by cases v <;> simp [single] at h1 <;> rfl
 rw [hs, hc, if_neg (by simp)]
 refine SWp.bind ?_
 exact zbd (vs := [v]) (i := 0) ⟨h1, by rw [zdm]; exact h2, by rw [zdm]; exact h3, by rw [zdm]; exact h4⟩
theorem zn4 {T : TypeId} {b o : Nat} {vs : Array Value} {h : zac} {K : zac → Prop} {cs : List Value} (hl : zcv P T = some (.many cs)) (hn : cs.length = vs.size) (hh : zdr b o vs.toList 0 h K) :
 SWp P (storeVar T ⟨b, o, none⟩ (.agg vs)) h fun _ h' => K h' := by
 obtain ⟨-, i, hi, hs⟩ := zcq hl
 unfold storeVar
 refine SWp.bind (zpy (a := i.size) (zao hi) (zis hi) ?_)
 rw [hs, if_neg (by simp [Value.cells, hn])]
 exact zbd hh
theorem zpg {g : FuncId} (hc : zbp P g) {args : Array Value} {h : zac} {K : Next → zac → Prop} (hK : K (.enter g args) h) : SWp P (callFunc g args) h K := by
 obtain ⟨fn, hf, hn, hb⟩ := hc
 unfold callFunc
 show SWp P (Sem.bind program _) h K
 simp only [program, Sem.bind, SWp, hf]
 rw [if_neg (by rw [hn]; simp), if_neg (by rw [hb]; simp)]
 exact hK
theorem zbz {H : Hn} {t : List Value} {o : Oper} {h : zac} {K : Value → zac → Prop} (hh : zrx P H t o h K) : SWp P (execOp (ev t) o) h (zkf P K) := by
 obtain ⟨dst, op, ty, pos, after, guard⟩ := o
 cases op <;> simp only [zrx] at hh
 case store T a x =>
  split at hh
  · rename_i ad ha
    simp only [execOp]
    refine SWp.bind ?_
    simp only [Instr.storeAt]
    refine SWp.bind ?_
    rw [ha]
    unfold zgu at hh
    split at hh
    · rename_i z x' hl
      obtain ⟨b, o, rfl, h1⟩ := za8 hh
      exact zqg hl h1
    · rename_i cs vs hl hx
      obtain ⟨b, o, rfl, h1⟩ := za8 hh
      obtain ⟨h1, h2⟩ := zaa h1
      rw [hx]
      exact zn4 hl (by simpa using z18 h1) h2
    · exact hh.elim
  · exact hh.elim
 case box T x => exact hh
 case alloc T =>
  split at hh
  · rename_i z hz
    cases hi : P.info? T with
    | none => simp [hi] at hz
    | some i =>
      simp [hi] at hz
      simp only [execOp, Instr.alloc]
      refine SWp.bind (SWp.bind ?_)
      unfold zeroValue typeInfo
      refine SWp.bind (SWp.bind ?_)
      show SWp P (match P.info? T with | some i => pure i | none => stuck "no such type") h _
      rw [hi]
      show SWp P (match i.zero with | some v => pure v | none => unsupported (.resourceLimit "a value of more than 2^22 cells")) h _
      rw [hz]
      exact hh
  · exact hh.elim
 case buildSlice T n ps =>
  split at hh
  · rename_i e hu
    split at hh
    · rename_i i hi
      split at hh
      · rename_i z hz
        obtain ⟨hc, hh⟩ := zaa hh
        rw [z17, z2u] at hc
        split at hh
        · rename_i cells hf
          have h1 : ¬ n * i.size > 2 ^ 24 := by have := z2w hc.1; omega
          have h2 : n * i.size ≠ 0 := fun h0 => by rw [h0] at hc; simp at hc
          simp only [execOp, Instr.buildSlice]
          refine SWp.bind (SWp.bind ?_)
          unfold underlying
          refine SWp.bind ?_
          show SWp P (match P.underlying T with | some d => pure d | none => stuck "no such type") h _
          rw [hu]
          show SWp P (sizeOf e >>= _) h _
          refine SWp.bind (zpy (a := i.size) (zao hi) (zis hi) ?_)
          rw [if_neg h1]
          rw [if_neg h2]
          refine SWp.bind (SWp.bind ?_)
          unfold typeInfo
          refine SWp.bind ?_
          show SWp P (match P.info? e with | some i => pure i | none => stuck "no such type") h _
          rw [hi]
          show SWp P (match i.zero with | some v => pure v | none => unsupported (.resourceLimit "a value of more than 2^22 cells")) h _
          rw [hz]
          refine SWp.bind ?_
          have hpa : (ps.map fun (x : Nat × Operand) => (x.1, ev t x.2)).toList = ps.toList.map fun p => (p.1, ev t p.2) := by simp
          have hra : (Array.range (n * i.size)).map (fun j => z.cells[j % z.cells.size]!) = ((z2b (n * i.size)).map fun j => z.cells[j % z.cells.size]!).toArray := by
           apply Array.ext'; simp
          have hfill := zhm hf
          show SWp P (match Instr.fill (fun j => some (j * i.size, i.size)) ((Array.range (n * i.size)).map (z.cells[· % z.cells.size]!)) (ps.map fun (j, x) => (j, ev t x)).toList with
           | some cells => (do let a ← newRow e cells; pure (Value.slice (some a) n n) : Sem Value) | _ => stuck "buildSlice: a part of the wrong size") h _
          rw [hra]
          show SWp P (match Instr.fill (fun j => some (j * i.size, i.size)) ((z2b (n * i.size)).map fun j => z.cells[j % z.cells.size]!).toArray (ps.map fun (x : Nat × Operand) => (x.1, ev t x.2)).toList with
           | some cells => (do let a ← newRow e cells; pure (Value.slice (some a) n n) : Sem Value) | _ => stuck "buildSlice: a part of the wrong size") h _
          rw [hpa, hfill]
          exact hh
        · exact hh.elim
      · exact hh.elim
    · exact hh.elim
  · exact hh.elim
 case makeMap T r =>
  cases r with
  | none => exact hh
  | some x => exact hh
 case mapUpdate T m k v =>
  simp only [execOp]
  exact SWp.bind hh
 case makeSlice T l c =>
  simp only [execOp]
  exact SWp.bind (SWp.mono (fun v h' hv => zdp hv) hh)
 case range T x =>
  simp only [execOp]
  exact SWp.bind hh
 case mapEntry T m k =>
  simp only [execOp]
  exact SWp.bind hh
 case entryStore T m s v =>
  simp only [execOp]
  exact SWp.bind hh
 case next it str =>
  cases str
  · simp only [execOp]
    refine SWp.bind (SWp.mono (fun v h' hv => ?_) hh)
    rcases hv with ⟨rfl, hK⟩ | ⟨k, x, rfl, hK⟩
    · exact hK
    · exact hK
  · simp only [execOp]
    refine SWp.bind (SWp.mono (fun v h' hv => ?_) hh)
    rcases hv with ⟨rfl, hK⟩ | ⟨k, x, rfl, hK⟩
    · exact hK
    · exact hK
 case entry it =>
  simp only [execOp]
  unfold entryK at hh
  split at hh
  · refine SWp.bind (SWp.mono (fun v h' hv => ?_) hh)
    obtain ⟨a, ha⟩ := zjl hv
    obtain ⟨b, rfl, hK⟩ := zjl ha
    exact hK
  · exact hh.elim
 case call c =>
  obtain ⟨callee, args, argTypes⟩ := c
  have hargs : args.map (ev t) = (args.toList.map (ev t)).toArray := by apply Array.ext'; rw [Array.toList_map]
  simp only at hh
  split at hh
  · rename_i f
    unfold zsn at hh
    split at hh
    · rename_i g first captured hf
      simp only [execOp, resolve, hf, Deferred.ofValue]
      refine zpg hh.1 ?_
      refine Run.mono (R := zqb P ty K) ?_ (fun v h' hv => zdp hv)
      have he : (first ++ args.map (ev t) ++ captured).toList = first.toList ++ args.toList.map (ev t) ++ captured.toList := by simp
      rw [he]; exact hh
    · exact hh.elim
  · split at hh
    · rename_i s x hl
      have hm : args.map (ev t) = #[ev t s, ev t x] := by rw [hargs, hl]; rfl
      simp only [execOp, resolve, hm]
      exact SWp.bind (SWp.bind (SWp.mono (fun v h' hv => zdp hv) hh))
    · exact hh.elim
  · split at hh
    · rename_i s x hl
      have hm : args.map (ev t) = #[ev t s, ev t x] := by rw [hargs, hl]; rfl
      simp only [execOp, resolve, hm]
      exact SWp.bind (SWp.bind (SWp.mono (fun v h' hv => zdp hv) hh))
    · exact hh.elim
  · split at hh
    · rename_i s x hl
      have hm : args.map (ev t) = #[ev t s, ev t x] := by rw [hargs, hl]; rfl
      simp only [execOp, resolve, hm]
      exact SWp.bind (SWp.bind hh)
    · exact hh.elim
  · split at hh
    · rename_i x hl
      have hm : args.map (ev t) = #[ev t x] := by rw [hargs, hl]; rfl
      simp only [execOp, resolve, hm]
      exact SWp.bind (SWp.bind hh)
    · exact hh.elim
  · exact hh
 all_goals exact hh
end
section
variable {P : Program}
theorem zgj : ∀ (l : List Value) (i : Nat), zc6 l i = l.getD i undef
 | [], i => by simp [zc6]
 | v :: l, 0 => by simp [zc6]
 | v :: l, i + 1 => by simp only [zc6, zgj l i]; simp
theorem z03 : ∀ (l : List Value) (i : Nat) (v : Value), zmn l i v = l.set i v
 | [], i, v => by simp [zmn]
 | x :: l, 0, v => by simp [zmn]
 | x :: l, i + 1, v => by simp only [zmn, z03 l i]; simp
theorem zau (a : Act) : a.eval = ev a.tmps.toList := by
 funext x
 cases x with
 | tmp i => simp only [Act.eval, ev, zgj]; simp [z4s]
 | _ => rfl
theorem zbb (a : Act) (d : Option Tmp) (v : Value) : (a.put d v).tmps.toList = ztv a.tmps.toList d v := by
 cases d with
 | none => rfl
 | some i => simp [Act.put, ztv, z03]
theorem zah (a : Act) (d : Option Tmp) (v : Value) : (a.put d v).defers = a.defers := by cases d <;> rfl
theorem zi2 : ∀ (l : List Value) {i j : Nat} (v : Value), i ≠ j → zc6 (zmn l i v) j = zc6 l j
 | [], _, _, _, _ => rfl
 | x :: l, 0, 0, v, h => absurd rfl h
 | x :: l, 0, j + 1, v, _ => rfl
 | x :: l, i + 1, 0, v, _ => rfl
 | x :: l, i + 1, j + 1, v, h => zi2 l v (by omega)
theorem zle : ∀ (l : List Value) (i : Nat) (v : Value), (zmn l i v).length = l.length
 | [], _, _ => rfl
 | _ :: _, 0, _ => rfl
 | _ :: l, i + 1, v => by simp [zmn, zle l i v]
theorem zri : ∀ (l : List Value) (i : Nat) (c : Bool), zc6 l i = .bool c → zmn l i (.bool c) = l
 | [], _, _, _ => rfl
 | x :: l, 0, c, h => by simp only [zc6] at h; subst h; rfl
 | x :: l, i + 1, c, h => by simp only [zmn]; rw [zri l i c h]
structure Agr (md : List Nat) (t t' : List Value) : Prop where
 len : t'.length = t.length
 same : ∀ i, i ∉ md → zc6 t' i = zc6 t i
theorem Agr.refl (md : List Nat) (t : List Value) : Agr md t t := ⟨rfl, fun _ _ => rfl⟩
theorem Agr.trans {md : List Nat} {a b c : List Value} (h : Agr md a b) (k : Agr md b c) : Agr md a c :=
 ⟨k.len.trans h.len, fun i hi => (k.same i hi).trans (h.same i hi)⟩
theorem Agr.mono {md md' : List Nat} {a b : List Value} (h : Agr md a b) (hm : ∀ i, i ∈ md → i ∈ md') : Agr md' a b :=
 ⟨h.len, fun i hi => h.same i fun hc => hi (hm i hc)⟩
theorem Agr.put {md : List Nat} {t : List Value} {d : Option Tmp} (v : Value) (hd : ∀ i, d = some i → i ∈ md) : Agr md t (ztv t d v) := by
 cases d with
 | none => exact .refl _ _
 | some i => exact ⟨zle _ _ _, fun j hj => zi2 _ _ fun e => hj (e ▸ hd i rfl)⟩
theorem zp2 {ops : List Oper} {a : Act} {j : Nat} : yielded ops.toArray a.tmps j = match (ops[j]?).bind (·.dst) with
 | some d => (match zc6 a.tmps.toList d with | .bool c => some c | _ => none)
 | none => none := by
 unfold yielded
 simp only [z3o]
 cases hd : (ops[j]?).bind (·.dst) with
 | none => rfl
 | some d =>
   simp only [Option.bind_some, zgj]
   cases ht : a.tmps[d]? with
   | none => simp [ht, undef]
   | some v =>
     simp only [z4g, z6q, ht, z3b]
     cases v <;> rfl
theorem zcb {ops : List Oper} {o : Oper} {a : Act} {A B : List Value → Prop} (h : zff ops o a.tmps.toList A B) :
 (Region.wanted o (yielded ops.toArray a.tmps) = true ∧ A a.tmps.toList) ∨ (Region.wanted o (yielded ops.toArray a.tmps) = false ∧ B a.tmps.toList) := by
 unfold zff zcy at h
 unfold Region.wanted
 cases hg : o.guard with
 | none => rw [hg] at h; exact .inl ⟨rfl, h⟩
 | some jw =>
   obtain ⟨j, want⟩ := jw
   rw [hg] at h
   simp only [zp2]
   simp only at h
   cases hd : (ops[j]?).bind (·.dst) with
   | none => rw [hd] at h; exact .inr ⟨by simp, h⟩
   | some d =>
     rw [hd] at h
     simp only at h ⊢
     cases hv : zc6 a.tmps.toList d with
     | bool c =>
       rw [hv] at h
       simp only at h ⊢
       cases c <;> cases want <;> simp only [cond_true, cond_false, zri _ _ _ hv] at h <;> simp [h]
     | _ => rw [hv] at h; exact .inr ⟨by simp, h⟩
theorem zvh {H : Hn} {o : Oper} {h : zac} {K : Value → zac → Prop} {a : Act} (hh : opK P H a.tmps.toList o h K) {w : World} (hw : w.heap = h)
 {next : Act → World → Prop} {Q : Exit → Act → World → Prop} (hn : ∀ v w', K v w'.heap → Same w w' → next (a.put o.dst v) w') : o.wp P a w next Q := by
 unfold opK at hh
 cases hp : zch o with
 | true =>
   simp only [hp, cond_true] at hh
   obtain ⟨v, hK, hr⟩ := zh7 hh
   unfold Oper.wp
   rw [zau, hr w]
   exact hn v w (hw ▸ hK) (.refl w)
 | false =>
   simp only [hp, cond_false] at hh
   cases hq : zgz o with
   | true =>
     simp only [hq, cond_true] at hh
     obtain ⟨v, hK, hr⟩ := zh5 hh
     unfold Oper.wp
     rw [zau, hr w hw]
     exact hn v w (hw ▸ hK) (.refl w)
   | false =>
     simp only [hq, cond_false] at hh
     exact zrr (zbz hh) (zau a) hw hn
def Up (md : List Nat) (t : List Value) (w : World) (K : List Value → zac → Prop) (a' : Act) (w' : World) : Prop :=
 a'.defers = [] ∧ Same w w' ∧ Agr md t a'.tmps.toList ∧ K a'.tmps.toList w'.heap
theorem zkb {H : Hn} {ops : List Oper} {K : List Value → zac → Prop} {md : List Nat} {Q : Exit → Act → World → Prop} : ∀ (l : List Oper) (a : Act) (w : World),
 vcOps P H ops K l a.tmps.toList w.heap → a.defers = [] → (∀ o ∈ l, ∀ d, o.dst = some d → d ∈ md) → (∀ a' w', Up md a.tmps.toList w K a' w' → Q .normal a' w') → wpList P ops.toArray Q l a w
 | [], a, w, hh, hd, _, hQ => hQ a w ⟨hd, .refl w, .refl _ _, hh⟩
 | o :: l, a, w, hh, hd, hm, hQ => by
   have hput : ∀ v, Agr md a.tmps.toList (a.put o.dst v).tmps.toList := fun v => by rw [zbb]; exact .put v fun i hi => hm o (by simp) i hi
   unfold wpList
   rcases zcb hh with ⟨hw, h1⟩ | ⟨hw, h1⟩
   · rw [if_pos hw]
     refine .inl (zvh h1 rfl fun v w' hK hS => ?_)
     refine zkb l (a.put o.dst v) w' (by rw [zbb]; exact hK) (by rw [zah]; exact hd) (fun o' ho' => hm o' (by simp [ho'])) fun a' w'' hU => ?_
     exact hQ a' w'' ⟨hU.1, hS.trans hU.2.1, (hput v).trans hU.2.2.1, hU.2.2.2⟩
   · rw [if_neg (by rw [hw]; simp)]
     refine zkb l (a.put o.dst undef) w (by rw [zbb]; exact h1) (by rw [zah]; exact hd) (fun o' ho' => hm o' (by simp [ho'])) fun a' w'' hU => ?_
     exact hQ a' w'' ⟨hU.1, hU.2.1, (hput undef).trans hU.2.2.1, hU.2.2.2⟩
def wpF (P : Program) (ops : List Oper) (Q : Exit → Act → World → Prop) (Cs : List (Nat × (World → Prop))) : Nat → Array Bool → Act → World → Prop
 | 0, listed, a, w => Region.ready .any ops.toArray listed = [] ∧ Q .normal a w
 | n + 1, listed, a, w => (Region.ready .any ops.toArray listed = [] → Q .normal a w) ∧
   ∀ i ∈ Region.ready .any ops.toArray listed, wpOp P ops.toArray Q i (fun a' w' => (∀ c ∈ Cs, zck ops ops.length c.1 i = false → c.2 w → c.2 w') ∧ wpF P ops Q Cs n (listed.setIfInBounds i true) a' w') a w
theorem zsr {ops : List Oper} {Q : Exit → Act → World → Prop} {Cs : List (Nat × (World → Prop))} : ∀ (n : Nat) (listed : Array Bool) (a : Act) (w : World), wpF P ops Q Cs n listed a w → wpAny P .any ops.toArray Q n listed a w
 | 0, _, _, _, h => h
 | n + 1, _, _, _, h => ⟨h.1, fun i hi => wpOp_mono (fun a' w' hh => zsr n _ a' w' hh.2) (h.2 i hi)⟩
def Closed (ops : List Oper) (listed : Array Bool) : Prop :=
 ∀ j oj, ops[j]? = some oj → listed.getD j false = true → ∀ e ∈ oj.after, Region.binds .any e = true → listed.getD e.on false = true
theorem Closed.set {ops : List Oper} {listed : Array Bool} (hc : Closed ops listed) {i : Nat} (hi : i ∈ Region.ready .any ops.toArray listed) : Closed ops (listed.setIfInBounds i true) := by
 intro j oj hj hl e he hb
 obtain ⟨_, oi, hoi, hall⟩ := mem_ready.1 hi
 by_cases hij : i = j
 · subst hij
   have : oj = oi := Option.some.inj (hj.symm.trans (by simpa using hoi))
   subst this
   exact getD_set_true (hall e he hb)
 · rw [getD_set_ne false hij] at hl
   exact getD_set_true (hc j oj hj hl e he hb)
theorem zew {ops : List Oper} {listed : Array Bool} (hc : Closed ops listed) {i : Nat} : ∀ (n j : Nat) (oj : Oper), ops[j]? = some oj →
 (∀ e ∈ oj.after, Region.binds .any e = true → listed.getD e.on false = true) → zck ops n i j = true → listed.getD i false = true
 | 0, _, _, _, _, h => by simp [zck] at h
 | n + 1, j, oj, hj, hall, h => by
   simp only [zck, hj, List.any_eq_true, z17, z34, beq_iff_eq] at h
   obtain ⟨e, he, hb, h1⟩ := h
   have hl := hall e (by simpa using he) hb
   rcases h1 with h1 | h1
   · rw [← h1]; exact hl
   · cases hk : ops[e.on]? with
     | none =>
       cases n with
       | zero => simp [zck] at h1
       | succ n => simp [zck, hk] at h1
     | some ok => exact zew hc n e.on ok hk (fun e' he' hb' => hc e.on ok hk hl e' he' hb') h1
def YieldC (P : Program) (ops : List Oper) (o : Oper) (v : Value) (C : World → Prop) (a : Act) : Prop :=
 (Region.wanted o (yielded ops.toArray a.tmps) = true ∧ ∀ w, C w → (execOp a.eval o).run P w = .ok (.value v) w) ∨ (Region.wanted o (yielded ops.toArray a.tmps) = false ∧ v = undef)
theorem YieldC.wpOp {ops : List Oper} {Q : Exit → Act → World → Prop} {i : Nat} {o : Oper} {v : Value} {C : World → Prop} {a : Act} (hi : ops[i]? = some o) (hy : YieldC P ops o v C a) {K : Act → World → Prop} {w : World} (hC : C w)
 (h : K (a.put o.dst v) w) : wpOp P ops.toArray Q i K a w := by
 unfold Go.wpOp
 simp only [z3o, hi]
 rcases hy with ⟨hw, hv⟩ | ⟨hw, rfl⟩
 · simp only [hw, if_true, Oper.wp, hv w hC, Oper.upon]; exact .inl h
 · simp only [hw, z3n, if_false]; exact h
theorem YieldC.of_same {ops : List Oper} {o : Oper} {v : Value} {C : World → Prop} {a a' : Act} (hy : YieldC P ops o v C a) (he : execOp a'.eval o = execOp a.eval o)
 (hw : Region.wanted o (yielded ops.toArray a'.tmps) = Region.wanted o (yielded ops.toArray a.tmps)) : YieldC P ops o v C a' := by
 unfold YieldC at *
 rw [he, hw]
 exact hy
theorem zp3 {ops : List Oper} {Q : Exit → Act → World → Prop} {j : Nat} {oi oj : Oper} {v : Value} {C : World → Prop} (hj : ops[j]? = some oj) (hap : oi.apart ops.toArray oj = true)
 (hsi : ∀ cs b, oi.op ≠ .select cs b) (hsj : ∀ cs b, oj.op ≠ .select cs b) (hQ : ∀ c a w, ¬ Q (.panic c) a w) (hQo : ∀ a w, ¬ Q .outgrown a w) {K : Act → World → Prop} {a : Act} {w : World}
 (hy : YieldC P ops oi v C a) (h : wpOp P ops.toArray Q j K (a.put oi.dst v) w) :
 wpOp P ops.toArray Q j (fun a' w' => YieldC P ops oi v C a' ∧ K (a'.put oi.dst v) w') a w := by
 obtain ⟨h1, h2, h3⟩ := Oper.apart_spec hap
 have keep : ∀ (a : Act), YieldC P ops oi v C a → ∀ u, YieldC P ops oi v C (a.put oj.dst u) := fun a hy u =>
  hy.of_same (execOp_put oi hsi a oj.dst u h3) (wanted_put oi a oj.dst u h3)
 have keepD : ∀ d, YieldC P ops oi v C { a with defers := d :: a.defers } := fun d => hy.of_same rfl rfl
 unfold Go.wpOp at *
 simp only [z3o, hj] at *
 rw [wanted_put oj a oi.dst v h1] at h
 split
 · rename_i hw
   simp only [hw, if_true] at h
   rcases h with h | ⟨_, a', w', hlets⟩
   case inr => exact absurd hlets (hQo _ _)
   refine .inl ?_
   unfold Oper.wp at *
   rw [execOp_put oj hsj a oi.dst v h1] at h
   generalize (execOp a.eval oj).run P w = r at *
   cases r with
   | ok n w' =>
     cases n <;> simp only [Oper.upon] at h ⊢
     case value u => exact ⟨keep a hy u, by rw [← Act.put_comm a v u h2]; exact h⟩
     case skip => exact ⟨keep a hy _, by rw [← Act.put_comm a v undef h2]; exact h⟩
     case defer d =>
      refine ⟨keep _ (keepD d) _, ?_⟩
      rw [← Act.put_comm _ v undef h2, ← Act.put_defers]
      exact h
     case enter f args =>
      refine Calls.mono h fun e w'' he => ?_
      cases e with
      | returned u => exact ⟨keep a hy u, by rw [← Act.put_comm a v u h2]; exact he⟩
      | panicked c => exact absurd he (hQ _ _ _)
      | outgrown => obtain ⟨a', w', hlets⟩ := he; exact absurd hlets (hQo _ _)
     case row row args => exact Rows.mono h fun u w'' he => ⟨keep a hy u, by rw [← Act.put_comm a v u h2]; exact he⟩
   | halt x w' =>
     cases x <;> simp only [Oper.upon] at h ⊢
     case panic u => exact absurd h (hQ _ _ _)
 · rename_i hw
   simp only [hw] at h
   exact ⟨keep a hy _, by rw [← Act.put_comm a v undef h2]; exact h⟩
theorem zjq {ops : List Oper} {Q : Exit → Act → World → Prop} {i : Nat} {oi : Oper} {v : Value} {C : World → Prop} (hi : ops[i]? = some oi)
 (hsel : ∀ (j : Nat) (o : Oper) cs b, ops[j]? = some o → o.op ≠ .select cs b) (hQ : ∀ c a w, ¬ Q (.panic c) a w) (hQo : ∀ a w, ¬ Q .outgrown a w)
 {Cs Cs' : List (Nat × (World → Prop))} (hsub : ∀ c ∈ Cs, c ∈ Cs')
 (hC : ∀ j w w', (∀ c ∈ Cs', zck ops ops.length c.1 j = false → c.2 w → c.2 w') → zck ops ops.length i j = false → C w → C w') :
 ∀ (fuel : Nat) (listed : Array Bool) (a : Act) (w : World), Closed ops listed →
   (∀ j oj, ops[j]? = some oj → j ≠ i → listed.getD j true = false → (∀ e ∈ oj.after, Region.binds .any e = true → e.on ≠ i) → oi.apart ops.toArray oj = true) →
   i ∈ Region.ready .any ops.toArray listed → YieldC P ops oi v C a → C w →
   wpF P ops Q Cs' fuel (listed.setIfInBounds i true) (a.put oi.dst v) w → wpF P ops Q Cs (fuel + 1) listed a w := by
 intro fuel
 induction fuel with
 | zero =>
   intro listed a w hcl _ hr hy hCw H
   refine ⟨fun h => (by rw [h] at hr; cases hr), fun j hj => ?_⟩
   by_cases hji : j = i
   · subst hji; exact hy.wpOp hi hCw ⟨fun _ _ _ h => h, H⟩
   · have := ready_mono hj hji
     rw [H.1] at this
     cases this
 | succ fuel ih =>
   intro listed a w hcl hfree hr hy hCw H
   refine ⟨fun h => (by rw [h] at hr; cases hr), fun j hj => ?_⟩
   by_cases hji : j = i
   · subst hji
     refine hy.wpOp hi hCw ⟨fun _ _ _ h => h, ?_⟩
     -- fewer constraints
     have mono : ∀ (n : Nat) (listed : Array Bool) (a : Act) (w : World), wpF P ops Q Cs' n listed a w → wpF P ops Q Cs n listed a w := by
      intro n
      induction n with
      | zero => intro _ _ _ h; exact h
      | succ n ihn => intro _ _ _ h; exact ⟨h.1, fun k hk => wpOp_mono (fun a' w' hh => ⟨fun c hc => hh.1 c (hsub c hc), ihn _ _ _ hh.2⟩) (h.2 k hk)⟩
     exact mono _ _ _ _ H
   · have h1 := H.2 j (ready_mono hj hji)
     obtain ⟨hjun, oj, hoj, hall⟩ := mem_ready.1 hj
     have hoj' : ops[j]? = some oj := by simpa using hoj
     have hiun := (mem_ready.1 hr).1
     have hil : listed.getD i false = false := by
      rcases z3z i listed.size with h' | h'
      · simp [h'] at hiun ⊢; exact hiun
      · simp [Array.getElem?_eq_none h'] at hiun
     have hnot : ∀ e ∈ oj.after, Region.binds .any e = true → e.on ≠ i := fun e he hb heq => by
      have h1 := hall e he hb
      rw [heq, hil] at h1
      cases h1
     have hnw : zck ops ops.length i j = false := by
      cases hw : zck ops ops.length i j with
      | false => rfl
      | true =>
        have := zew hcl ops.length j oj hoj' hall hw
        rw [hil] at this; cases this
     have h2 := zp3 hoj' (hfree j oj hoj' hji hjun hnot) (fun cs b => hsel i oi cs b hi) (fun cs b => hsel j oj cs b hoj') hQ hQo hy h1
     have hfree' : ∀ k ok, ops[k]? = some ok → k ≠ i → (listed.setIfInBounds j true).getD k true = false →
      (∀ e ∈ ok.after, Region.binds .any e = true → e.on ≠ i) → oi.apart ops.toArray ok = true := fun k ok hk hki hun hno => by
      refine hfree k ok hk hki ?_ hno
      by_cases hjk : j = k
      · subst hjk; exact hjun
      · rw [getD_set_ne true hjk] at hun; exact hun
     refine wpOp_mono (fun a' w' h3 => ⟨fun c hc => h3.2.1 c (hsub c hc), ih (listed.setIfInBounds j true) a' w' (hcl.set hj) hfree' (ready_mono hr (Ne.symm hji)) h3.1 (hC j w w' h3.2.1 hnw hCw) ?_⟩) h2
     rw [Array.setIfInBounds_comm _ _ hji]
     exact h3.2.2
end
section
variable {P : Program}
structure Lst (ops : List Oper) (done : List Nat) (listed : Array Bool) : Prop where
 size : listed.size = ops.length
 eq : ∀ k, k < ops.length → listed.getD k true = done.contains k
 bd : ∀ k, done.contains k = true → k < ops.length
theorem Lst.getF {ops : List Oper} {done : List Nat} {listed : Array Bool} (h : Lst ops done listed) {k : Nat} (hk : k < ops.length) : listed.getD k false = done.contains k := by
 have := h.eq k hk
 have hs : k < listed.size := by rw [h.size]; exact hk
 simp [hs] at this ⊢
 exact this
theorem Lst.set {ops : List Oper} {done : List Nat} {listed : Array Bool} (h : Lst ops done listed) (i : Nat) (hi : i < ops.length) : Lst ops (i :: done) (listed.setIfInBounds i true) := by
 refine ⟨by simp [h.size], fun k hk => ?_, fun k hk => ?_⟩
 rotate_left
 · rw [z6r, z34, beq_iff_eq] at hk
   rcases hk with rfl | hk
   · exact hi
   · exact h.bd k hk
 have hs : i < listed.size := by rw [h.size]; exact hi
 by_cases hik : i = k
 · subst hik; simp [hs]
 · rw [getD_set_ne true hik, h.eq k hk]
   have : (k == i) = false := by simpa using Ne.symm hik
   simp only [z6r, this, Bool.false_or]
theorem zcp {ops : List Oper} {done : List Nat} {listed : Array Bool} (h : Lst ops done listed) {i : Nat} :
 i ∈ Region.ready .any ops.toArray listed ↔ zqo ops done i = true := by
 rw [mem_ready]
 unfold zqo
 simp only [z3o]
 cases ho : ops[i]? with
 | none => simp
 | some o =>
   have hlt : i < ops.length := (z2a.1 ho).1
   rw [h.eq i hlt]
   simp only [Option.some.injEq, exists_eq_left', z17, z2u, z29, z34]
   refine and_congr_right fun _ => ⟨fun hh e he => ?_, fun hh e he hb => ?_⟩
   · cases hb : Region.binds .any e with
     | false => exact .inl rfl
     | true =>
       refine .inr ?_
       have h1 := hh e (by simpa using he) hb
       rcases z3z e.on ops.length with h2 | h2
       · rw [← h.getF h2]; exact h1
       · simp [show listed.size ≤ e.on by rw [h.size]; exact h2] at h1
   · have h1 := (hh e (by simpa using he)).resolve_left (by simp [hb])
     rcases z3z e.on ops.length with h2 | h2
     · rw [h.getF h2]; exact h1
     · exact absurd (h.bd _ h1) (by omega)
theorem zxr {n : Nat} {p : Nat → Bool} {i : Nat} (h : (z2b n).find? p = some i) : i < n ∧ p i = true :=
 ⟨z35.1 (z5y h), z5z h⟩
theorem zng {ops : List Oper} {done : List Nat} {i : Nat} (h : zq7 ops done = some i) : zqo ops done i = true ∧ ∃ o, ops[i]? = some o ∧ (zch o || zgz o) = true := by
 have := (zxr h).2
 simp only [z17] at this
 refine ⟨this.1, ?_⟩
 cases ho : ops[i]? with
 | none => rw [ho] at this; simp at this
 | some o => rw [ho] at this; exact ⟨o, rfl, this.2⟩
theorem zik : ∀ {l : List Nat} {f : Nat → Prop}, conjL l f → l ≠ [] ∧ ∀ i ∈ l, f i
 | [], _, h => h.elim
 | [i], f, h => ⟨by simp, fun j hj => by simp only [z3v] at hj; subst hj; exact h⟩
 | i :: j :: l, f, h => ⟨by simp, fun k hk => by
     simp only [z2e] at hk
     rcases hk with rfl | hk
     · exact h.1
     · exact (zik (l := j :: l) h.2).2 k (by simpa using hk)⟩
def zlt (P : Program) (held : List (Nat × Oper × List Value × Value)) : List (Nat × (World → Prop)) :=
 held.map fun x => (x.1, fun w => (execOp (ev x.2.2.1) x.2.1).run P w = .ok (.value x.2.2.2) w)
theorem zir {ops : List Oper} {e : Nat} {h : zac} : ∀ {held : List (Nat × Oper × List Value × Value)} {K : Prop}, again P ops e h held K →
 K ∧ ∀ c ∈ zlt P held, zck ops ops.length c.1 e = false → ∀ w : World, w.heap = h → c.2 w
 | [], K, hh => ⟨hh, fun c hc => by simp [zlt] at hc⟩
 | (i, o, t, v) :: l, K, hh => by
   simp only [again] at hh
   cases hw : zck ops ops.length i e with
   | true =>
     rw [hw] at hh
     obtain ⟨hK, hc⟩ := zir hh
     refine ⟨hK, fun c hcm hcw => ?_⟩
     simp only [zlt, z2s, z2e] at hcm
     rcases hcm with rfl | hcm
     · rw [hw] at hcw; cases hcw
     · exact hc c hcm hcw
   | false =>
     rw [hw] at hh
     obtain ⟨hK, hc⟩ := zir hh.2
     refine ⟨hK, fun c hcm hcw w hhw => ?_⟩
     simp only [zlt, z2s, z2e] at hcm
     rcases hcm with rfl | hcm
     · obtain ⟨v', rfl, hr⟩ := zh5 hh.1
       exact hr w hhw
     · exact hc c hcm hcw w hhw
theorem znu {H : Hn} {ops : List Oper} {K : List Value → zac → Prop} {md : List Nat} {Q : Exit → Act → World → Prop} (hsel : Region.noSelect ops.toArray = true)
 (hQ : ∀ c a w, ¬ Q (.panic c) a w) (hQo : ∀ a w, ¬ Q .outgrown a w) (hm : ∀ o ∈ ops, ∀ d, o.dst = some d → d ∈ md) :
 ∀ (n : Nat) (done : List Nat) (held : List (Nat × Oper × List Value × Value)) (listed : Array Bool) (a : Act) (w : World), zf6 P H ops K n done held a.tmps.toList w.heap → zhr ops n done = true →
   Lst ops done listed → Closed ops listed → a.defers = [] → (∀ a' w', Up md a.tmps.toList w K a' w' → Q .normal a' w') → wpF P ops Q (zlt P held) n listed a w := by
 intro n
 induction n with
 | zero =>
   intro done held listed a w hh hB hL hcl hd hK
   refine ⟨?_, hK a w ⟨hd, .refl w, .refl _ _, hh⟩⟩
   simp only [zhr, z29, z35] at hB
   rw [List.eq_nil_iff_forall_not_mem]
   intro i hi
   obtain ⟨h0, o, ho, -⟩ := mem_ready.1 hi
   have hlt : i < ops.length := by
    have := (z5k.1 ho).1
    simpa using this
   rw [hL.eq i hlt, hB i hlt] at h0
   cases h0
 | succ n ih =>
   intro done held listed a w hh hB hL hcl hd hK
   simp only [zf6] at hh
   simp only [zhr] at hB
   have sel : ∀ (j : Nat) (o : Oper) cs b, ops[j]? = some o → o.op ≠ .select cs b := fun j o cs b hj => Region.noSelect_spec hsel j o cs b (by simpa using hj)
   -- what is shown of the rest
   have rest : ∀ (i : Nat) (o : Oper) (ho : ops[i]? = some o) (hri : i ∈ Region.ready .any ops.toArray listed) (hB2 : zhr ops n (i :: done) = true) (held' : List (Nat × Oper × List Value × Value)) (v : Value) (w' : World),
    zf6 P H ops K n (i :: done) held' (ztv a.tmps.toList o.dst v) w'.heap → Same w w' →
    wpF P ops Q (zlt P held') n (listed.setIfInBounds i true) (a.put o.dst v) w' := fun i o ho hri hB2 held' v w' h1 hS => by
    have hilt : i < ops.length := (z2a.1 ho).1
    have homem : o ∈ ops := z2y ho
    have hput : ∀ v, Agr md a.tmps.toList (a.put o.dst v).tmps.toList := fun v => by rw [zbb]; exact .put v fun d hd => hm o homem d hd
    exact ih (i :: done) held' _ (a.put o.dst v) w' (by rw [zbb]; exact h1) hB2 (hL.set i hilt) (hcl.set hri) (by rw [zah]; exact hd) fun a' w'' hU =>
     hK a' w'' ⟨hU.1, hS.trans hU.2.1, (hput v).trans hU.2.2.1, hU.2.2.2⟩
   cases hn : zq7 ops done with
   | some i =>
     obtain ⟨hrd, o, ho, hq⟩ := zng hn
     rw [hn] at hh hB
     simp only [ho, z17] at hh hB
     obtain ⟨hB1, hB2⟩ := hB
     have hri : i ∈ Region.ready .any ops.toArray listed := (zcp hL).2 hrd
     have hcl' := hcl.set hri
     have rest := rest i o ho hri hB2
     have hfree : ∀ j oj, ops[j]? = some oj → j ≠ i → listed.getD j true = false → (∀ e ∈ oj.after, Region.binds .any e = true → e.on ≠ i) → o.apart ops.toArray oj = true := by
      intro j oj hj hji hun hno
      have hjlt : j < ops.length := (z2a.1 hj).1
      have h1 := z29.1 hB1 j (z35.2 hjlt)
      rw [hj] at h1
      rw [hL.eq j hjlt] at hun
      simp only [z34, beq_iff_eq, hji, false_or, hun, z3n, List.any_eq_true, z17] at h1
      rcases h1 with ⟨e, he, hb, hon⟩ | h1
      · exact absurd hon (hno e (by simpa using he) hb)
      · exact h1
     rcases zcb hh with ⟨hw, h1⟩ | ⟨hw, h1⟩
     · cases hp : zch o with
       | true =>
         simp only [hp, cond_true] at h1
         obtain ⟨v, hv, hr⟩ := zh7 h1
         refine zjq (C := fun _ => True) ho sel hQ hQo (fun _ h => h) (fun _ _ _ _ _ _ => trivial) n listed a w hcl hfree hri (.inl ⟨hw, fun w' _ => by rw [zau]; exact hr w'⟩) trivial (rest held v w hv (.refl w))
       | false =>
         simp only [hp, cond_false] at h1
         obtain ⟨v, hv, hr⟩ := zh5 h1
         refine zjq (C := fun w' => (execOp (ev a.tmps.toList) o).run P w' = .ok (.value v) w') ho sel hQ hQo (Cs' := zlt P ((i, o, a.tmps.toList, v) :: held)) (fun c hc => z2j _ hc)
          (fun j w1 w2 hall hwt hC => hall (i, _) (z2p ..) hwt hC) n listed a w hcl hfree hri (.inl ⟨hw, fun w' hw' => by rw [zau]; exact hw'⟩) (hr w rfl) (rest _ v w hv (.refl w))
     · exact zjq (C := fun _ => True) ho sel hQ hQo (fun _ h => h) (fun _ _ _ _ _ _ => trivial) n listed a w hcl hfree hri (.inr ⟨hw, rfl⟩) trivial (rest held undef w h1 (.refl w))
   | none =>
     rw [hn] at hh hB
     simp only at hh hB
     obtain ⟨hne, hall⟩ := zik hh
     have hmem : ∀ j, j ∈ Region.ready .any ops.toArray listed → j ∈ zb7 ops done := fun j hj => by
      have hjr := (zcp hL).1 hj
      have hjlt : j < ops.length := by
       obtain ⟨oj, hoj, -⟩ := (mem_ready.1 hj).2
       have := (z5k.1 hoj).1
       simpa using this
      exact z3p.2 ⟨z35.2 hjlt, hjr⟩
     refine ⟨fun h0 => ?_, fun j hj => ?_⟩
     · cases hr : zb7 ops done with
       | nil => exact (hne hr).elim
       | cons j l =>
         have h1 : j ∈ zb7 ops done := by rw [hr]; exact z2p ..
         have h2 : j ∈ Region.ready .any ops.toArray listed := (zcp hL).2 (z3p.1 h1).2
         rw [h0] at h2; cases h2
     · have hjm := hmem j hj
       have hh := hall j hjm
       have hB := z29.1 hB j hjm
       cases ho : ops[j]? with
       | none => rw [ho] at hh; exact hh.elim
       | some o =>
         rw [ho] at hh hB
         simp only [z17, z2u, z49] at hh hB
         obtain ⟨⟨hp, hro⟩, hB2⟩ := hB
         have rest := rest j o ho hj hB2
         unfold wpOp
         simp only [z3o, ho]
         rcases zcb hh with ⟨hw, h1⟩ | ⟨hw, h1⟩
         · rw [if_pos hw]
           refine .inl (zrr (zbz h1) (zau a) rfl fun v w' hA hS => ?_)
           obtain ⟨hA, hC⟩ := zir hA
           exact ⟨fun c hc hcw _ => hC c hc hcw w' rfl, rest held v w' hA hS⟩
         · rw [if_neg (by rw [hw]; simp)]
           exact ⟨fun _ _ _ h => h, rest held undef w h1 (.refl w)⟩
def mkI : (l : List Sh) → (List Value → zac → Prop) → zuk l
 | [], f => fun h => f [] h
 | .i k :: l, f => fun n => mkI l fun vs h => f (.int k n :: vs) h
 | .b :: l, f => fun c => mkI l fun vs h => f (.bool c :: vs) h
 | .s :: l, f => fun s => mkI l fun vs h => f (.string s :: vs) h
 | .p :: l, f => fun a => mkI l fun vs h => f (.pointer a :: vs) h
 | .sl :: l, f => fun a n c => mkI l fun vs h => f (.slice a n c :: vs) h
 | .m :: l, f => fun r => mkI l fun vs h => f (.map r :: vs) h
 | .v :: l, f => fun v => mkI l fun vs h => f (v :: vs) h
theorem zug : ∀ (l : List Sh) (f : List Value → zac → Prop) (vs : List Value) (h : zac), app l (mkI l f) vs h → f vs h
 | [], f, vs, h, hh => by cases vs <;> first | exact hh | exact hh.elim
 | x :: l, f, vs, h, hh => by
   cases x <;> cases vs <;> first
    | exact hh.elim
    | (rename_i v vs
       cases v <;> first
        | exact hh.elim
        | (simp only [app] at hh; obtain ⟨h3, h2⟩ := zek hh; subst h3; exact zug l _ vs h h2)
        | exact zug l _ vs h hh)
theorem zl2 : ∀ (l : List Sh) (f : List Value → zac → Prop) (h : zac), zpw l (mkI l f) h fun vs => f vs h
 | [], f, h => fun hh => hh
 | x :: l, f, h => by
   cases x
   case sl => intro a n c; exact zl2 l _ h
   all_goals (intro y; exact zl2 l _ h)
theorem zfo : ∀ (l : List Sh) (I : zuk l) (h : zac) (C : List Value → Prop), allI l I h C → ∀ vs, app l I vs h → C vs
 | [], I, h, C, hh, vs, ha => by cases vs <;> first | exact hh ha | exact ha.elim
 | x :: l, I, h, C, hh, vs, ha => by
   cases x <;> cases vs <;> first
    | exact ha.elim
    | (rename_i v vs
       cases v <;> first
        | exact ha.elim
        | (simp only [app] at ha; obtain ⟨h3, h2⟩ := zek ha; subst h3; exact zfo l _ h _ (hh _) vs h2)
        | exact zfo l _ h _ (hh _) vs ha
        | exact zfo l _ h _ (hh _ _ _) vs ha)
theorem zox : ∀ (l : List Value) (i : Nat), zmn l i (zc6 l i) = l
 | [], _ => rfl
 | _ :: _, 0 => rfl
 | x :: l, i + 1 => by simp only [zmn, zc6]; rw [zox l i]
theorem zj1 (t : List Value) : ∀ L : List (Nat × Sh), ze1 t (slots L) (zsw t L) = t
 | [] => rfl
 | p :: L => by simp only [slots, zsw, ze1]; rw [zox]; exact zj1 t L
theorem zo4 (md : List Nat) (g : Nat → Value) : ∀ (t : List Value) (k : Nat), (garb md g t k).length = t.length
 | [], _ => rfl
 | _ :: t, k => by simp [garb, zo4 md g t (k + 1)]
theorem zvw (md : List Nat) (g : Nat → Value) : ∀ (t : List Value) (k i : Nat), i < t.length → zc6 (garb md g t k) i = cond (md.contains (k + i)) (g (k + i)) (zc6 t i)
 | [], _, _, h => by simp at h
 | v :: t, k, 0, _ => by simp [garb, zc6]
 | v :: t, k, i + 1, h => by
   simp only [garb, zc6]
   rw [zvw md g t (k + 1) i (by simpa using h)]
   rw [show k + 1 + i = k + (i + 1) by omega]
theorem zvs : ∀ (a b : List Value), a.length = b.length → (∀ i, i < a.length → zc6 a i = zc6 b i) → a = b
 | [], [], _, _ => rfl
 | [], _ :: _, h, _ => by simp at h
 | _ :: _, [], h, _ => by simp at h
 | x :: a, y :: b, h, hh => by
   have h0 := hh 0 (by simp)
   simp only [zc6] at h0
   rw [h0, zvs a b (by simpa using h) fun i hi => by have := hh (i + 1) (by simpa using hi); simpa [zc6] using this]
theorem zfg {md : List Nat} {t t' : List Value} (h : Agr md t t') (L : List (Nat × Sh)) : zgl md t L (zc6 t') (zsw t' L) = t' := by
 have hg : garb md (zc6 t') t 0 = t' := by
  refine zvs _ _ (by rw [zo4, h.len]) fun i hi => ?_
  rw [zo4] at hi
  rw [zvw md _ t 0 i hi, z2l]
  cases hc : md.contains i with
  | true => rfl
  | false => exact (h.same i (by simpa using hc)).symm
 unfold zgl
 rw [hg]
 exact zj1 t' L
def Lift (Q : Post) (md : List Nat) (t : List Value) (w : World) : Exit → Act → World → Prop
 | .normal, a', w' => Up md t w (Q .nrm) a' w'
 | .exit id, a', w' => Up md t w (Q (.ext id)) a' w'
 | .ret, a', w' => Up md t w (Q .ret) a' w'
 | _, _, _ => False
theorem Up.mono {md md' : List Nat} {t : List Value} {w : World} {K K' : List Value → zac → Prop} {a' : Act} {w' : World} (h : Up md t w K a' w') (hm : ∀ i ∈ md, i ∈ md') (hK : ∀ t h, K t h → K' t h) : Up md' t w K' a' w' :=
 ⟨h.1, h.2.1, h.2.2.1.mono hm, hK _ _ h.2.2.2⟩
theorem Up.after {md md' mD : List Nat} {t : List Value} {w w1 : World} {a1 : Act} {K K' : List Value → zac → Prop} {a' : Act} {w' : World} (h1 : Up md t w K a1 w1) (h2 : Up md' a1.tmps.toList w1 K' a' w')
 (hm : ∀ i ∈ md, i ∈ mD) (hm' : ∀ i ∈ md', i ∈ mD) : Up mD t w K' a' w' :=
 ⟨h2.1, h1.2.1.trans h2.2.1, (h1.2.2.1.mono hm).trans (h2.2.2.1.mono hm'), h2.2.2.2⟩
theorem ztb {n k : Nat} (d : Bool) (hk : k < n) : (Array.replicate n false).getD k d = false := by
 rw [z4s, z6s, if_pos hk]; rfl
theorem zn8 (n k : Nat) : (Array.replicate n false).getD k false = false := by
 rw [z4s, z6s]; split <;> rfl
theorem vc_sound (hmix : P.follows .mixedOrders = true) {H : Hn} : ∀ (c : Code) (Q : Post) (a : Act) (w : World), vc P H c Q a.tmps.toList w.heap → a.defers = [] →
 c.wp P (Lift Q (zaw c) a.tmps.toList w) a w := by
 intro c
 induction c with
 | skip => intro Q a w hh hd; exact wp_skip ⟨hd, .refl w, .refl _ _, hh⟩
 | region id ops d =>
   intro Q a w hh hd
   simp only [vc] at hh
   have hm : ∀ o ∈ ops.toList, ∀ d', o.dst = some d' → d' ∈ zaw (.region id ops d) := fun o ho d' hd' => by
    simp only [zaw, z2f]
    exact .inl (List.mem_filterMap.2 ⟨o, ho, hd'⟩)
   cases d with
   | false =>
     have := zkb (P := P) (Q := Lift Q (zaw (.region id ops false)) a.tmps.toList w) ops.toList a w hh hd hm (fun a' w' hU => hU)
     refine wp_region_list ?_
     simpa using this
   | true =>
     obtain ⟨hB, hh⟩ := zaa hh
     refine wp_region_any hmix ?_
     rw [z17] at hB
     obtain ⟨hB, hsel⟩ := hB
     have key := znu (P := P) (md := zaw (.region id ops true)) (Q := Lift Q (zaw (.region id ops true)) a.tmps.toList w) hsel (fun _ _ _ h => h) (fun _ _ h => h) hm ops.toList.length [] [] (Array.replicate ops.toList.length false) a
      { w with drawn := w.drawn + 1 } hh hB ⟨by simp, fun k hk => by rw [ztb true hk]; simp, fun k hk => by simp at hk⟩ (fun j oj hj hl => by rw [zn8] at hl; cases hl)
      hd (fun a' w' hU => ⟨hU.1, ⟨hU.2.1.tape, hU.2.1.os, hU.2.1.output, Nat.le_trans (Nat.le_succ _) hU.2.1.drawn⟩, hU.2.2.1, hU.2.2.2⟩)
     have := zsr _ _ _ _ key
     simpa using this
 | seq x y ihx ihy =>
   intro Q a w hh hd
   simp only [vc] at hh
   have hmx : ∀ i ∈ zaw x, i ∈ zaw (.seq x y) := fun i hi => by simp only [zaw, z2f]; exact .inl hi
   have hmy : ∀ i ∈ zaw y, i ∈ zaw (.seq x y) := fun i hi => by simp only [zaw, z2f]; exact .inr hi
   have go : ∀ (K : List Value → zac → Prop), vc P H x (thenQ K Q) a.tmps.toList w.heap → (∀ a1 w1, Up (zaw x) a.tmps.toList w K a1 w1 → vc P H y Q a1.tmps.toList w1.heap) →
    (Code.seq x y).wp P (Lift Q (zaw (.seq x y)) a.tmps.toList w) a w := by
    intro K hx hK
    refine wp_seq (wp_mono (ihx _ a w hx hd) fun e a1 w1 hq => ?_)
    cases e with
    | normal =>
      refine wp_mono (ihy Q a1 w1 (hK a1 w1 hq) hq.1) fun e a2 w2 hq2 => ?_
      cases e with
      | normal => exact Up.after hq hq2 hmx hmy
      | exit id => exact Up.after hq hq2 hmx hmy
      | ret => exact Up.after hq hq2 hmx hmy
      | _ => exact hq2.elim
    | exit id => exact Up.mono hq hmx fun _ _ h => h
    | ret => exact Up.mono hq hmx fun _ _ h => h
    | _ => exact hq.elim
   cases hj : ztz H.js (zaf y) with
   | false =>
     rw [hj] at hh
     exact go _ hh fun a1 w1 hU => hU.2.2.2
   | true =>
     rw [hj] at hh
     refine go _ (hh (mkI _ fun vs h' => ∀ g : Nat → Value, vc P H y Q (zgl (zaw x) a.tmps.toList (zbj H.js (zaf y)) g vs) h') fun h' => ?_) fun a1 w1 hU => ?_
     · exact zl2 _ (fun vs h' => ∀ g : Nat → Value, vc P H y Q (zgl (zaw x) a.tmps.toList (zbj H.js (zaf y)) g vs) h') h'
     · have h1 := zug _ _ _ _ hU.2.2.2 (zc6 a1.tmps.toList)
       rw [zfg hU.2.2.1] at h1
       exact h1
 | cond c x y ihx ihy =>
   intro Q a w hh hd
   simp only [vc] at hh
   unfold bcase at hh
   split at hh
   · rename_i b hb
     refine wp_cond (t := b) (by rw [zau]; exact hb) ?_
     have hmx : ∀ i ∈ zaw x, i ∈ zaw (.cond c x y) := fun i hi => by simp only [zaw, z2f]; exact .inl hi
     have hmy : ∀ i ∈ zaw y, i ∈ zaw (.cond c x y) := fun i hi => by simp only [zaw, z2f]; exact .inr hi
     cases b
     · exact wp_mono (ihy Q a w hh hd) fun e a' w' hq => by
        cases e <;> first | exact Up.mono hq hmy fun _ _ h => h | exact hq.elim
     · exact wp_mono (ihx Q a w hh hd) fun e a' w' hq => by
        cases e <;> first | exact Up.mono hq hmx fun _ _ h => h | exact hq.elim
   · exact hh.elim
 | block id c ih =>
   intro Q a w hh hd
   simp only [vc] at hh
   refine wp_block (wp_mono (ih _ a w hh hd) fun e a' w' hq => ?_)
   cases e with
   | normal => exact hq
   | exit j =>
     simp only [Exit.inBlock]
     by_cases hj : j = id
     · rw [if_pos hj]
       exact Up.mono hq (fun _ h => h) fun t h hk => by simpa [blockQ, hj] using hk
     · rw [if_neg hj]
       have hb : z14 j id = false := by
        cases h : z14 j id with
        | false => rfl
        | true => exact absurd (z18 h) hj
       exact Up.mono hq (fun _ h => h) fun t h hk => by simpa [blockQ, hb] using hk
   | ret => exact hq
   | _ => exact hq.elim
 | loop c ih =>
   intro Q a w hh hd
   simp only [vc] at hh
   obtain ⟨I, m, h0, hr⟩ := hh
   refine wp_loop (fun a' w' => Up (zaw c) a.tmps.toList w (fun t h => app _ I (zsw t (zbj H.hs (zaf c))) h) a' w')
    (fun a' w' => zx1 _ m (zsw a'.tmps.toList (zbj H.hs (zaf c))) w'.heap) ⟨hd, .refl w, .refl _ _, h0⟩ fun a1 w1 hU => ?_
   have h1 := zfo _ I _ _ (hr (zc6 a1.tmps.toList) w1.heap) _ hU.2.2.2
   rw [zfg hU.2.2.1] at h1
   refine wp_mono (ih _ a1 w1 h1 hU.1) fun e a2 w2 hq => ?_
   cases e with
   | normal => exact ⟨Up.after hU (hq.mono (fun _ h => h) fun _ _ h => h.1) (fun _ h => h) fun _ h => h, hq.2.2.2.2⟩
   | exit id => exact Up.after hU hq (fun _ h => h) fun _ h => h
   | ret => exact Up.after hU hq (fun _ h => h) fun _ h => h
   | _ => exact hq.elim
 | exit id => intro Q a w hh hd; exact wp_exit ⟨hd, .refl w, .refl _ _, hh⟩
 | ret => intro Q a w hh hd; exact wp_ret ⟨hd, .refl w, .refl _ _, hh⟩
 | scope c ih =>
   intro Q a w hh hd
   refine wp_scope_straight (wp_mono (ih Q a w hh hd) fun e a' w' hq => ?_)
   cases e <;> first | exact hq | exact hq.elim
 | label l => intro Q a w hh hd; exact wp_label ⟨hd, .refl w, .refl _ _, hh⟩
 | _ => intro Q a w hh hd; exact hh.elim
def rvS (tmps : Array Value) : ResultVar → Sem Value
 | .tmp t => pure (tmps.getD t undef)
 | .cell a t => do loadVar t (← asAddr (tmps.getD a undef))
theorem zj5 {t : List Value} {h : zac} {tmps : Array Value} (ht : tmps.toList = t) : ∀ {l : List ResultVar} {K : List Value → Prop}, zzt P l t h K →
 ∃ vs, K vs ∧ ∀ w : World, w.heap = h → (l.mapM (rvS tmps)).run P w = .ok vs w
 | [], K, hh => ⟨[], hh, fun w _ => by simp⟩
 | .tmp i :: l, K, hh => by
   simp only [zzt] at hh
   obtain ⟨vs, hK, hr⟩ := zj5 ht hh
   refine ⟨_, hK, fun w hw => ?_⟩
   have he : tmps.getD i undef = zc6 t i := by rw [← ht, zgj]; simp [z4s]
   have h1 : (rvS tmps (.tmp i)).run P w = .ok (zc6 t i) w := by rw [← he]; rfl
   simp only [z48, Sem.run_bind, h1, hr w hw, z2h]
   rfl
 | .cell i T :: l, K, hh => by
   simp only [zzt] at hh
   split at hh
   · rename_i a ha
     obtain ⟨b, o, v, rfl, h1, h2⟩ := znl hh
     obtain ⟨vs, hK, hr⟩ := zj5 ht h1
     refine ⟨_, hK, fun w hw => ?_⟩
     have he : tmps.getD i undef = .pointer (some ⟨b, o, none⟩) := by rw [← ha, ← ht, zgj]; simp [z4s]
     have h3 : (rvS tmps (.cell i T)).run P w = .ok v w := by
      show Sem.run P (do loadVar T (← asAddr (tmps.getD i undef))) w = _
      rw [he]
      simp only [asAddr, Sem.run_bind, Sem.run_pure, z2h, h2 w hw]
     simp only [z48, Sem.run_bind, h3, hr w hw, z2h]
     rfl
   · exact hh.elim
theorem zvj (vs : List Value) : (if h : vs.toArray.size = 1 then vs.toArray[0] else .tuple vs.toArray) = one vs := by
 match vs with
 | [] => rfl
 | [v] => rfl
 | v :: u :: vs => rw [dif_neg (by simp)]; rfl
theorem zeh {fn : Func} {t : List Value} {h : zac} {tmps : Array Value} (ht : tmps.toList = t) {R : Value → zac → Prop} (hh : zzt P fn.results.toList t h fun vs => R (one vs) h) :
 ∃ v, R v h ∧ ∀ w : World, w.heap = h → (results fn tmps).run P w = .ok v w := by
 obtain ⟨vs, hK, hr⟩ := zj5 ht hh
 refine ⟨_, hK, fun w hw => ?_⟩
 have hf : results fn tmps = (fn.results.mapM (rvS tmps) >>= fun vs => pure (if h : vs.size = 1 then vs[0] else .tuple vs)) := by
  unfold results
  refine congrArg (· >>= _) (congrArg (Array.mapM · fn.results) (funext fun x => ?_))
  cases x <;> rfl
 have : (fn.results.mapM (rvS tmps)).run P w = .ok vs.toArray w := by
  rw [z6i, Sem.run_map, hr w hw]; rfl
 rw [hf, Sem.run_bind]
 rw [this]
 show Sem.run P (pure (if h : vs.toArray.size = 1 then vs.toArray[0] else .tuple vs.toArray)) w = _
 rw [zvj]
 rfl
theorem z1o {f : FuncId} {fn : Func} (hmix : P.follows .mixedOrders = true) (hf : P.funcs[f]? = some fn) (hn : (fn.name == "runtime.NumGoroutine") = false) {H : Hn} {args : List Value} {h : zac} {R : Value → zac → Prop}
 (hh : vcFun P H fn args h R) : Run P f args h R := by
 unfold vcFun at hh
 split at hh
 · exact hh.elim
 · rename_i c hc
   refine ⟨⟨fn, hf, hn, by simp [hc]⟩, fun w hw => ?_⟩
   subst hw
   refine calls_of_wp hf hc ?_
   have hl : (args.toArray ++ Array.replicate (fn.ntmps - args.toArray.size) undef : Array Value).toList = args ++ z2g (fn.ntmps - args.length) undef := by simp
   refine wp_mono (vc_sound hmix c _ { tmps := args.toArray ++ Array.replicate (fn.ntmps - args.toArray.size) undef, defers := [] } w (by rw [hl]; exact hh) rfl) fun e a' w' hq => ?_
   cases e with
   | normal =>
     obtain ⟨v, hR, hr⟩ := zeh rfl hq.2.2.2
     exact ⟨hq.1, v, hr w' rfl, v, rfl, hR, hq.2.1⟩
   | ret =>
     obtain ⟨v, hR, hr⟩ := zeh rfl hq.2.2.2
     exact ⟨hq.1, v, hr w' rfl, v, rfl, hR, hq.2.1⟩
   | exit id => exact hq.2.2.2.elim
   | _ => exact hq.elim
theorem zd1 {V : Prop} {f : FuncId} {fn : Func} (hmix : P.follows .mixedOrders = true) (hf : P.funcs[f]? = some fn) (hn : (fn.name == "runtime.NumGoroutine") = false) {H : Hn} {args : List Value} {h : zac} {R : Value → zac → Prop}
 (hV : V = vcFun P H fn args h R) (hh : V) : Run P f args h R :=
 z1o hmix hf hn (hV ▸ hh)
end
def i64 (x : Int) : Prop := -9223372036854775808 ≤ x ∧ x ≤ 9223372036854775807
theorem w64 {x : Int} (h1 : -9223372036854775808 ≤ x) (h2 : x ≤ 9223372036854775807) : z13 .i64 x = x := by
 have hb : (2 ^ IntKind.i64.bits : Int) = 18446744073709551616 := by decide
 have hb1 : (2 ^ (IntKind.i64.bits - 1) : Int) = 9223372036854775808 := by decide
 simp only [z13, IntKind.signed, hb, hb1, z4l, decide_eq_true_eq, ge_iff_le]
 split <;> omega
theorem w64n {n : Nat} (h : n < 9223372036854775807) : z13 .i64 ((n : Int) + 1) = ((n + 1 : Nat) : Int) := by
 rw [w64 (by omega) (by omega)]; omega
theorem cIf {p : Prop} [Decidable p] {A B : Prop} (h1 : p → A) (h2 : ¬ p → B) : cond (decide p) A B := by
 by_cases h : p
 · rw [decide_eq_true h]; exact h1 h
 · rw [decide_eq_false h]; exact h2 h
theorem cEq {a b : Int} {A B : Prop} (h1 : a = b → A) (h2 : a ≠ b → B) : cond (a == b) A B := by
 by_cases h : a = b
 · rw [beq_iff_eq.2 h]; exact h1 h
 · rw [beq_eq_false_iff_ne.2 h]; exact h2 h
theorem cNe {a b : Int} {A B : Prop} (h1 : a ≠ b → A) (h2 : a = b → B) : cond (a != b) A B := by
 by_cases h : a = b
 · have : (a != b) = false := by simp [h]
   rw [this]; exact h2 h
 · have : (a != b) = true := by simpa using h
   rw [this]; exact h1 h
theorem cNot {b : Bool} {A B : Prop} (h : cond b B A) : cond (!b) A B := by cases b <;> exact h
theorem cB {b : Bool} {A B : Prop} (h1 : b = true → A) (h2 : b = false → B) : cond b A B := by cases b; exact h2 rfl; exact h1 rfl
structure KB (F : List Nat) (h h' : zac) : Prop where
 size : h.size ≤ h'.size
 blk : ∀ b, b < h.size → b ∉ F → h'[b]? = h[b]?
abbrev Keep (h h' : zac) : Prop := KB [] h h'
theorem KB.refl (F : List Nat) (h : zac) : KB F h h := ⟨z2r _, fun _ _ _ => rfl⟩
theorem KB.trans {F : List Nat} {a b c : zac} (h : KB F a b) (k : KB F b c) : KB F a c :=
 ⟨Nat.le_trans h.size k.size, fun x hx hf => (k.blk x (z5l hx h.size) hf).trans (h.blk x hx hf)⟩
theorem KB.mono {F G : List Nat} {a b : zac} (h : KB F a b) (hs : ∀ x, x ∈ F → x < a.size → x ∈ G) : KB G a b :=
 ⟨h.size, fun x hx hf => h.blk x hx fun hm => hf (hs x hm hx)⟩
theorem KB.push (F : List Nat) (h : zac) (o : Obj) : KB F h (h.push o) :=
 ⟨by simp, fun b hb _ => by rw [Array.getElem?_push, if_neg (by omega)]⟩
theorem zu9 (h : zac) (o : Obj) : (h.push o)[h.size]? = some o := by simp
theorem zrn (h : zac) (a : Addr) (v : Value) : (hset h a v).size = h.size := by simp [hset]
theorem zty (h : zac) (a : Addr) (v : Value) {b : Nat} (hb : b ≠ a.block) : (hset h a v)[b]? = h[b]? := by
 simp only [hset, z51]
 rw [if_neg (by omega)]
theorem hset_get (h : zac) {b o : Nat} (v : Value) {c : Array Value} {e : TypeId} {f : Nat × Nat} (hb : h[b]? = some (.cells c e f)) : (hset h ⟨b, o, none⟩ v)[b]? = some (.cells (c.setIfInBounds o v) e f) := by
 simp only [hset, z51]
 simp [hb]
theorem KB.hset {F : List Nat} {h : zac} {a : Addr} {v : Value} (hb : a.block ∈ F) : KB F h (hset h a v) :=
 ⟨by rw [zrn]; exact z2r _, fun b _ hf => zty h a v fun e => hf (e ▸ hb)⟩
theorem zbl {h : zac} {b : Nat} {o : Obj} (hb : h[b]? = some o) : b < h.size := (z5k.1 hb).1
theorem KB.get {F : List Nat} {h h' : zac} (k : KB F h h') {b : Nat} {o : Obj} (hb : h[b]? = some o) (hf : b ∉ F) : h'[b]? = some o := by
 rw [k.blk b (zbl hb) hf]; exact hb
theorem z1k {h h' : zac} {b : Nat} (hb : h'[b]? = h[b]?) (o : Nat) : hcell h' ⟨b, o, none⟩ = hcell h ⟨b, o, none⟩ := by unfold hcell; simp only [hb]
theorem hcell_lt {h : zac} {b o : Nat} {v : Value} (hv : hcell h ⟨b, o, none⟩ = some v) : b < h.size := by
 unfold hcell at hv
 cases hb : h[b]? with
 | none => simp [hb] at hv
 | some x => exact zbl hb
theorem KB.cell {F : List Nat} {h h' : zac} (k : KB F h h') {b o : Nat} {v : Value} (hv : hcell h ⟨b, o, none⟩ = some v) (hf : b ∉ F) : hcell h' ⟨b, o, none⟩ = some v := by
 rw [z1k (k.blk b (hcell_lt hv) hf)]; exact hv
theorem zaz {h : zac} {b : Nat} {c : Array Value} {e : TypeId} {f : Nat × Nat} (hb : h[b]? = some (.cells c e f)) (o : Nat) : hcell h ⟨b, o, none⟩ = c[o]? := by
 unfold hcell; simp [hb]
theorem zvv {h : zac} {b : Nat} {c : Array Value} {e : TypeId} (hb : h[b]? = some (.cells c e (0, 0))) (o : Nat) : zxo h ⟨b, o, none⟩ = false := by
 unfold zxo; simp [hb]
theorem zxc {h : zac} {o : Obj} {K : Nat → zac → Prop} (hK : ∀ h1 : zac, h1[h.size]? = some o → KB [] h h1 → h1.size = h.size + 1 → K h.size h1) : zkg h o K :=
 hK _ (zu9 h o) (.push _ h o) (by simp)
theorem zy5 {h : zac} {b o : Nat} {v : Value} {K : zac → Prop} {c : Array Value} {e : TypeId} (hb : h[b]? = some (.cells c e (0, 0))) (ho : o < c.size) (hv : single v = true)
 (hK : ∀ h' : zac, h'[b]? = some (.cells (c.setIfInBounds o v) e (0, 0)) → KB [b] h h' → h'.size = h.size → K h') : stK h ⟨b, o, none⟩ v K :=
 ⟨hv, ⟨c[o], by rw [zaz hb]; simp [ho]⟩, zvv hb o, hK _ (hset_get h v hb) (.hset (by simp)) (zrn _ _ _)⟩
theorem zh3 {b : Nat} {e : TypeId} : ∀ {vs : List Value} {o i : Nat} {h : zac} {K : zac → Prop} {l : List Value}, h[b]? = some (.cells l.toArray e (0, 0)) → o + i + vs.length ≤ l.length → (∀ v ∈ vs, single v = true) →
 (∀ h' : zac, h'[b]? = some (.cells (zar l (o + i) vs).toArray e (0, 0)) → KB [b] h h' → h'.size = h.size → K h') → zdr b o vs i h K
 | [], o, i, h, K, l, hb, _, _, hK => hK h (by rw [zbg]; exact hb) (.refl _ _) rfl
 | v :: vs, o, i, h, K, l, hb, hl, hv, hK => by
   simp only [z2o] at hl
   show stK h ⟨b, zye o i, none⟩ v _
   rw [zdm]
   refine zy5 hb (by simp; omega) (hv v (by simp)) fun h1 h1b k1 s1 => ?_
   refine zh3 (e := e) (l := l.set (o + i) v) (by rw [h1b]; simp) (by simp; omega) (fun u hu => hv u (by simp [hu])) fun h2 h2b k2 s2 => ?_
   refine hK h2 ?_ (k1.trans k2) (s2.trans s1)
   rw [h2b, zef _ _ _ _ (by omega)]
   rfl
def SlOf {α : Type} (enc : α → List Value) (sz : Nat) (h : zac) (a : Option Addr) (n c : Nat) (xs : List α) : Prop :=
 xs.length = n ∧ n ≤ c ∧ ∀ i x, xs[i]? = some x → ∃ b o, a = some ⟨b, o, none⟩ ∧ ∀ j v, (enc x)[j]? = some v → hcell h ⟨b, o + i * sz + j, none⟩ = some v
theorem SlOf.kb {α : Type} {enc : α → List Value} {sz : Nat} {h h' : zac} {a : Option Addr} {n c : Nat} {xs : List α} {F : List Nat} (s : SlOf enc sz h a n c xs) (k : KB F h h') (hd : ∀ b o, a = some ⟨b, o, none⟩ → b ∉ F) : SlOf enc sz h' a n c xs :=
 ⟨s.1, s.2.1, fun i x hx => let ⟨b, o, ha, hc⟩ := s.2.2 i x hx; ⟨b, o, ha, fun j v hv => k.cell (hc j v hv) (hd b o ha)⟩⟩
theorem SlOf.el {α : Type} {enc : α → List Value} {sz : Nat} {h : zac} {a : Option Addr} {n c : Nat} {xs : List α} (s : SlOf enc sz h a n c xs) {z : Int} {i : Nat} (hz : z = i) (hi : i < xs.length) {K : Nat → Nat → Prop}
 (hK : ∀ b o, (∀ j v, (enc xs[i])[j]? = some v → hcell h ⟨b, o + z.toNat * sz + j, none⟩ = some v) → K b o) : zep a K := by
 obtain ⟨b, o, rfl, hc⟩ := s.2.2 i xs[i] (by simp [hi])
 subst hz
 exact hK b o (by simpa using hc)
def OwnS (B : Nat) (e : TypeId) (sz : Nat) (h : zac) (a : Option Addr) (n c : Nat) (cs : List Value) : Prop :=
 (a = none ∧ n = 0 ∧ c = 0 ∧ cs = []) ∨ ∃ (b : Nat) (l : Array Value), a = some ⟨b, 0, none⟩ ∧ B ≤ b ∧ h[b]? = some (.cells l e (0, 0)) ∧ l.size = c * sz ∧ n ≤ c ∧ cs.length = n * sz ∧ ∀ (j : Nat) (v : Value), cs[j]? = some v → l[j]? = some v
theorem OwnS.nil (B : Nat) (e : TypeId) (sz : Nat) (h : zac) : OwnS B e sz h none 0 0 [] := .inl ⟨rfl, rfl, rfl, rfl⟩
section
variable {P : Program}
theorem zad {α β : Type} {s : Sem α} {f : α → Sem β} {h : zac} {K : β → zac → Prop} : SWp P s h (fun a h' => SWp P (f a) h' K) → SWp P (s >>= f) h K := SWp.bind
theorem zat {T : TypeId} {d : TypeDesc} (hd : P.underlying T = some d) {h : zac} {K : TypeDesc → zac → Prop} (hK : K d h) : SWp P (underlying T) h K := by
 show SWp P (match P.underlying T with | some d => pure d | none => stuck "no such type") h K
 rw [hd]; exact hK
theorem za2 {T : TypeId} {i : TypeInfo} (hi : P.info? T = some i) {h : zac} {K : TypeInfo → zac → Prop} (hK : K i h) : SWp P (typeInfo T) h K := by
 show SWp P (match P.info? T with | some i => pure i | none => stuck "no such type") h K
 rw [hi]; exact hK
theorem zd6 {T : TypeId} {i : TypeInfo} (hi : P.info? T = some i) {h : zac} {K : Nat → zac → Prop} (hK : K i.size h) : SWp P (sizeOf T) h K :=
 zad (za2 hi hK)
theorem zjo {T : TypeId} {i : TypeInfo} {z : Value} (hi : P.info? T = some i) (hz : i.zero = some z) {h : zac} {K : Value → zac → Prop} (hK : K z h) : SWp P (zeroValue T) h K := by
 refine zad (za2 hi ?_)
 rw [hz]; exact hK
theorem zb1 {b o : Nat} {h : zac} : ∀ {vs : List Value} {i : Nat} {acc : Array Value} {K : Array Value → zac → Prop}, (∀ j v, vs[j]? = some v → hcell h ⟨b, o + (i + j), none⟩ = some v) → K (acc ++ vs.toArray) h →
 SWp P (loadCellsFrom ⟨b, o, none⟩ i vs.length acc) h K
 | [], i, acc, K, _, hK => by show K acc h; simpa using hK
 | v :: vs, i, acc, K, hc, hK => by
   show SWp P (load ((⟨b, o, none⟩ : Addr).add i) >>= fun v => loadCellsFrom ⟨b, o, none⟩ (i + 1) vs.length (acc.push v)) h K
   refine zad ⟨v, ?_, ?_⟩
   · rw [za1]; simpa using hc 0 v rfl
   · refine zb1 (fun j u hu => ?_) (by simpa using hK)
     have := hc (j + 1) u (by simpa using hu)
     rw [show i + 1 + j = i + (j + 1) by omega]; exact this
theorem zh0 {b : Nat} {e : TypeId} {vs l : List Value} {o : Nat} {h : zac} {K : Unit → zac → Prop} (hb : h[b]? = some (.cells l.toArray e (0, 0))) (hl : o + vs.length ≤ l.length) (hv : ∀ v ∈ vs, single v = true)
 (hK : ∀ h' : zac, h'[b]? = some (.cells (zar l o vs).toArray e (0, 0)) → KB [b] h h' → h'.size = h.size → K () h') : SWp P (storeCells ⟨b, o, none⟩ vs) h K :=
 zbd (K := K ()) (zh3 (i := 0) hb (by omega) hv (by simpa using hK))
theorem zgq {n : Nat} {h : zac} {K : Unit → zac → Prop} (hK : K () h) : SWp P (askRoom n) h K := by
 unfold askRoom
 split
 · exact hK
 · exact hK
def ownB (a : Option Addr) : List Nat :=
 match a with
 | some x => [x.block]
 | none => []
theorem za7 : ∀ (l : List Value) (o : Nat) (vs : List Value) (j : Nat), o + vs.length ≤ l.length → (zar l o vs)[j]? = if j < o then l[j]? else if j < o + vs.length then vs[j - o]? else l[j]?
 | l, o, [], j, _ => by
   rw [zbg]
   by_cases h1 : j < o
   · rw [if_pos h1]
   · rw [if_neg h1, if_neg (by simp only [z36]; omega)]
 | [], o, v :: vs, j, h => by simp at h
 | x :: l, 0, v :: vs, 0, _ => by simp [zar]
 | x :: l, 0, v :: vs, j + 1, h => by
   simp only [zar, z4t, z2o] at *
   rw [za7 l 0 vs j (by omega)]
   simp only [Nat.not_lt_zero, if_false, z2l, Nat.sub_zero]
   by_cases hj : j < vs.length
   · rw [if_pos hj, if_pos (by omega)]; simp
   · rw [if_neg hj, if_neg (by omega)]
 | x :: l, o + 1, v :: vs, 0, _ => by simp [zar]
 | x :: l, o + 1, v :: vs, j + 1, h => by
   have hh : o + (v :: vs).length ≤ l.length := by simp only [z2o] at *; omega
   simp only [zar, z4t]
   rw [za7 l o (v :: vs) j hh]
   by_cases h1 : j < o
   · rw [if_pos h1, if_pos (show j + 1 < o + 1 by omega)]
   · rw [if_neg h1, if_neg (show ¬ j + 1 < o + 1 by omega)]
     by_cases h2 : j < o + (v :: vs).length
     · rw [if_pos h2, if_pos (by omega), show j + 1 - (o + 1) = j - o by omega]
     · rw [if_neg h2, if_neg (by omega)]
theorem zrq {n : Nat} : ∀ (r c : Nat), Builtin.growBy n r c ≤ c ∨ Builtin.growBy n r c ≤ n + (n + 768) / 4
 | 0, c => .inl (z2r _)
 | r + 1, c => by
   unfold Builtin.growBy
   split
   · exact .inl (z2r _)
   · rename_i h
     rcases zrq (n := n) r (c + (c + 768) / 4) with h1 | h1
     · exact .inr (by omega)
     · exact .inr h1
theorem zfc {n c : Nat} (h : c < n) : Builtin.nextslicecap n c ≤ 2 * n + 512 := by
 unfold Builtin.nextslicecap
 split
 · omega
 · split
   · omega
   · rcases zrq (n := n) 4 c with h1 | h1 <;> omega
theorem app_own {B : Nat} {T E : TypeId} {i : TypeInfo} {z : Value} {h : zac} {a : Option Addr} {n c m cx b2 o2 : Nat} {cs new : List Value} {K : Value → zac → Prop}
 (hu : P.underlying T = some (.slice E)) (hi : P.info? E = some i) (hz : i.zero = some z) (hzs : z.cells.size = i.size) (hb : i.bytes ≠ 0) (hown : OwnS B E i.size h a n c cs) (hB : B ≤ h.size)
 (hnew : ∀ j v, new[j]? = some v → hcell h ⟨b2, o2 + j, none⟩ = some v) (hlen : new.length = m * i.size) (hs : ∀ v ∈ new, single v = true) (hbd : (2 * (n + m) + 512) * i.bytes ≤ 281474976710656)
 (hK : ∀ (a' : Option Addr) (c' : Nat) (h' : zac), OwnS B E i.size h' a' (n + m) c' (cs ++ new) → KB (ownB a) h h' → (∀ b o, a' = some ⟨b, o, none⟩ → b ∈ ownB a ∨ h.size ≤ b) → K (.slice a' (n + m) c') h') :
 znx P #[T, T] T (.slice a n c) (.slice (some ⟨b2, o2, none⟩) m cx) h K := by
 unfold znx
 have hfc : ∀ {K' : Array Value → zac → Prop}, K' new.toArray h → SWp P (Builtin.firstCells i.size m (.slice (some ⟨b2, o2, none⟩) m cx)) h K' := by
  intro K' hK'
  show SWp P (loadCells ⟨b2, o2, none⟩ (m * i.size)) h K'
  rw [← hlen]
  exact zb1 (fun j v hv => by simpa using hnew j v hv) (by simpa using hK')
 show SWp P (underlying T >>= _) h K
 refine zad (zat hu ?_)
 refine zad (zd6 hi ?_)
 refine zad (zad (zat hu ?_))
 refine zad ?_
 show SWp P (Builtin.lenOf (.slice (some ⟨b2, o2, none⟩) m cx) >>= _) h K
 refine zad ?_
 show SWp P (if n + m ≤ c then _ else _) h K
 by_cases hcap : n + m ≤ c
 · rw [if_pos hcap]
   refine zad (hfc ?_)
   rcases hown with ⟨rfl, rfl, rfl, rfl⟩ | ⟨b, l, rfl, h1, h2, h3, h4, h5, h6⟩
   · have hm : m = 0 := by omega
     subst hm
     have hn0 : new = [] := z3w (by simpa using hlen)
     subst hn0
     exact hK none 0 h (.nil _ _ _ _) (.refl _ _) fun b o hbo => by cases hbo
   · show SWp P (storeCells ((⟨b, 0, none⟩ : Addr).add (n * i.size)) new.toArray.toList >>= _) h K
     rw [za1, z2l]
     have hsz : n * i.size + new.length ≤ l.toList.length := by
      rw [hlen, ← z3i, Array.length_toList, h3]; exact z3e _ hcap
     refine zad (zh0 (l := l.toList) (by simpa using h2) (by simpa using hsz) hs fun h' h1b k1 s1 => ?_)
     refine hK (some ⟨b, 0, none⟩) c h' (.inr ⟨b, _, rfl, h1, h1b, ?_, hcap, ?_, ?_⟩) k1 fun b' o' hbo => .inl (by cases hbo; simp [ownB])
     · simp [zas, h3]
     · simp [h5, hlen, z3i]
     · intro j v hv
       simp only [z3o]
       rw [za7 _ _ _ _ hsz]
       by_cases hj : j < n * i.size
       · rw [if_pos hj]
         rw [z2k (by omega)] at hv
         simpa using h6 j v hv
       · rw [if_neg hj]
         rw [z2t (by omega), h5] at hv
         rw [if_pos (by have := (z2a.1 hv).1; omega)]
         exact hv
 · rw [if_neg hcap]
   refine zad (za2 hi ?_)
   rw [if_neg (by rintro ⟨-, h1 | h1⟩; exact absurd h1 (by simp); exact hb h1)]
   refine zad ?_
   refine zad (za2 hi ?_)
   have hcap2 : ¬ Builtin.nextslicecap (n + m) c * i.bytes > 2 ^ 48 := by
    have h1 := zfc (n := n + m) (c := c) (by omega)
    have h2 := z3e i.bytes h1
    omega
   rw [if_neg hcap2]
   refine zad ?_
   refine ⟨fun hf => (by cases hf), fun _ t => ?_⟩
   have hge : n + m ≤ (Question.appendCap (n + m) c E).cut t := by simp [Question.cut]
   generalize (Question.appendCap (n + m) c E).cut t = c' at hge ⊢
   refine zad (za2 hi ?_)
   refine zad (zgq ?_)
   have hold : ∀ {K' : Array Value → zac → Prop}, K' cs.toArray h → SWp P (Builtin.firstCells i.size n (.slice a n c)) h K' := by
    intro K' hK'
    rcases hown with ⟨rfl, rfl, rfl, rfl⟩ | ⟨b, l, rfl, h1, h2, h3, h4, h5, h6⟩
    · exact hK'
    · show SWp P (loadCells ⟨b, 0, none⟩ (n * i.size)) h K'
      rw [← h5]
      exact zb1 (fun j v hv => by rw [zaz h2, z2l, z2l]; exact h6 j v hv) (by simpa using hK')
   refine zad (hold ?_)
   refine zad ?_
   show SWp P (Builtin.firstCells i.size m (.slice (some ⟨b2, o2, none⟩) m cx)) h _
   refine hfc ?_
   refine zad (zjo hi hz ?_)
   have hcn : cs.length = n * i.size := by
    rcases hown with ⟨rfl, rfl, rfl, rfl⟩ | ⟨b, l, rfl, h1, h2, h3, h4, h5, h6⟩
    · simp
    · exact h5
   refine hK (some ⟨h.size, 0, none⟩) c' (h.push (.cells (cs.toArray ++ new.toArray ++ Builtin.zeroCells z.cells (c' - (n + m))) E)) (.inr ⟨h.size, _, rfl, hB, zu9 _ _, ?_, hge, ?_, ?_⟩) (.push _ _ _) fun b o hbo => .inr (by cases hbo; exact z2r _)
   · simp only [Array.size_append, z4h, Builtin.zeroCells, Array.size_map, Array.size_range, hcn, hlen, hzs]
     rw [← z3i, ← z3i, show n + m + (c' - (n + m)) = c' by omega]
   · simp [hcn, hlen, z3i]
   · intro j v hv
     have hj := (z2a.1 hv).1
     rw [z5m (by simpa using hj)]
     simpa using hv
end
section
abbrev zab := List (Nat × Obj)
abbrev Fz := Nat → Option Obj
def Le (D D' : Fz) : Prop := ∀ b o, D b = some o → D' b = some o
theorem Le.refl (D : Fz) : Le D D := fun _ _ h => h
theorem Le.trans {A B C : Fz} (h : Le A B) (k : Le B C) : Le A C := fun b o x => k b o (h b o x)
def ids (C : List zab) : List Nat := C.flatten.map (·.1)
structure St (D : Fz) (C : List zab) (h : zac) : Prop where
 nd : (ids C).Nodup
 own : ∀ p ∈ C.flatten, h[p.1]? = some p.2
 fz : ∀ b o, D b = some o → h[b]? = some o ∧ b ∉ ids C
variable {D D' : Fz} {C : List zab} {h h' : zac}
theorem St.perm {C' : List zab} (S : St D C h) (p : C.flatten.Perm C'.flatten) : St D C' h where
 nd := (p.map _).nodup_iff.1 S.nd
 own q hq := S.own q (p.mem_iff.2 hq)
 fz b o hb := ⟨(S.fz b o hb).1, fun hm => (S.fz b o hb).2 ((p.map _).mem_iff.2 hm)⟩
theorem zg4 {α : Type} : ∀ {C : List (List α)} {i : Nat} {c : List α}, C[i]? = some c → C.flatten.Perm (c :: C.eraseIdx i).flatten
 | [], i, c, h => by simp at h
 | x :: C, 0, c, h => by simp at h; subst h; exact .refl _
 | x :: C, i + 1, c, h => by
   have := zg4 (C := C) (i := i) (c := c) (by simpa using h)
   simp only [z2n, z6t] at this ⊢
   refine (this.append_left x).trans ?_
   rw [← z2m, ← z2m]
   exact z5a.append_right _
theorem St.pick (S : St D C h) (i : Nat) {c : zab} (hi : C[i]? = some c) : St D (c :: C.eraseIdx i) h := S.perm (zg4 hi)
theorem St.drop {c : zab} (S : St D (c :: C) h) : St D C h where
 nd := by have := S.nd; simp only [ids, z2n, z28, z4u] at this; exact this.2.1
 own p hp := S.own p (by simp only [z2n, z2f]; exact .inr hp)
 fz b o hb := ⟨(S.fz b o hb).1, fun hm => (S.fz b o hb).2 (by simp only [ids, z2n, z28, z2f]; exact .inr hm)⟩
theorem St.get {c : zab} {b : Nat} {o : Obj} (S : St D (c :: C) h) (hm : (b, o) ∈ c) : h[b]? = some o := S.own (b, o) (by simp [hm])
theorem St.upd {c c' : zab} (S : St D (c :: C) h) (k : KB (c.map (·.1)) h h') (hc : ∀ p ∈ c', h'[p.1]? = some p.2) (hn : (c'.map (·.1)).Nodup)
 (hi : ∀ p ∈ c', p.1 ∈ c.map (·.1) ∨ h.size ≤ p.1) : St D (c' :: C) h' := by
 have hnd := S.nd
 simp only [ids, z2n, z28, z4u] at hnd
 obtain ⟨h1, h2, h3⟩ := hnd
 have hlt : ∀ p ∈ C.flatten, p.1 < h.size := fun p hp => zbl (S.own p (by simp only [z2n, z2f]; exact .inr hp))
 have hout : ∀ p ∈ C.flatten, p.1 ∉ c.map (·.1) := fun p hp hm => h3 _ hm _ (z20.2 ⟨p, hp, rfl⟩) rfl
 refine ⟨?_, ?_, ?_⟩
 · simp only [ids, z2n, z28, z4u]
   refine ⟨hn, h2, fun x hx y hy e => ?_⟩
   subst e
   obtain ⟨p, hp, rfl⟩ := z20.1 hx
   obtain ⟨q, hq, he⟩ := z20.1 hy
   have := hlt q hq
   rcases hi p hp with hm | hm
   · exact hout q hq (he ▸ hm)
   · omega
 · intro p hp
   simp only [z2n, z2f] at hp
   rcases hp with hp | hp
   · exact hc p hp
   · exact k.get (S.own p (by simp only [z2n, z2f]; exact .inr hp)) (hout p hp)
 · intro b o hb
   obtain ⟨g1, g2⟩ := S.fz b o hb
   simp only [ids, z2n, z28, z2f, not_or] at g2 ⊢
   refine ⟨k.get g1 g2.1, fun hm => ?_, g2.2⟩
   obtain ⟨p, hp, rfl⟩ := z20.1 hm
   rcases hi p hp with hm | hm
   · exact g2.1 hm
   · have := zbl g1; omega
theorem St.nil (S : St D C h) : St D ([] :: C) h := ⟨S.nd, S.own, S.fz⟩
theorem St.keep (S : St D C h) (k : Keep h h') : St D C h' := (S.nil.upd (c' := []) (k.mono fun x hx => by simp at hx) (by simp) (by simp) (by simp)).drop
theorem St.join3 {c1 c2 c3 : zab} (S : St D (c1 :: c2 :: c3 :: C) h) : St D ((c1 ++ (c2 ++ c3)) :: C) h := S.perm (by simp)
theorem St.split3 {c1 c2 c3 : zab} (S : St D ((c1 ++ (c2 ++ c3)) :: C) h) : St D (c1 :: c2 :: c3 :: C) h := S.perm (by simp)
theorem St.split {c1 c2 : zab} (S : St D ((c1 ++ c2) :: C) h) : St D (c1 :: c2 :: C) h := S.perm (by simp)
theorem St.new {o : Obj} {K : Nat → zac → Prop} (S : St D C h) (hK : ∀ (b : Nat) (h1 : zac), St D ([(b, o)] :: C) h1 → K b h1) : zkg h o K :=
 zxc fun h1 hb k s => hK _ h1 (S.nil.upd (k.mono fun x hx => by simp at hx) (by simpa using hb) (by simp) (by simp))
theorem St.freeze {c : zab} (S : St D (c :: C) h) : ∃ D', Le D D' ∧ (∀ p ∈ c, D' p.1 = some p.2) ∧ St D' C h := by
 have hnd := S.nd
 simp only [ids, z2n, z28, z4u] at hnd
 obtain ⟨h1, h2, h3⟩ := hnd
 have key : ∀ p ∈ c, ∀ q ∈ c, p.1 = q.1 → p = q := fun p hp q hq e => by
  have hp' := S.own p (by simp [hp])
  have hq' := S.own q (by simp [hq])
  rw [e, hq'] at hp'
  exact Prod.ext e (Option.some.inj hp').symm
 refine ⟨fun b => match c.find? (fun p => p.1 == b) with | some p => some p.2 | none => D b, fun b o hb => ?_, fun p hp => ?_, S.drop.nd, S.drop.own, fun b o hb => ?_⟩
 · have : c.find? (fun p => p.1 == b) = none := by
    rw [z5n]
    intro p hp he
    simp only [beq_iff_eq] at he
    exact (S.fz b o hb).2 (by simp only [ids, z2n, z28, z2f]; exact .inl (z20.2 ⟨p, hp, he⟩))
   simp only [this]; exact hb
 · cases hf : c.find? (fun q => q.1 == p.1) with
   | none => rw [z5n] at hf; exact absurd (by simp) (hf p hp)
   | some q =>
     have h1 := z5y hf
     have h2 := z5z hf
     simp only [beq_iff_eq] at h2
     have := key q h1 p hp h2
     subst this
     simp only [hf]
 · cases hf : c.find? (fun q => q.1 == b) with
   | none => rw [hf] at hb; exact ⟨(S.drop.fz b o hb).1, (S.drop.fz b o hb).2⟩
   | some q =>
     rw [hf] at hb
     have h1 := z5y hf
     have h2' := z5z hf
     simp only [beq_iff_eq] at h2'
     cases hb
     refine ⟨h2' ▸ S.own q (by simp [h1]), fun hm => ?_⟩
     exact h3 b (z20.2 ⟨q, h1, h2'⟩) b hm rfl
theorem St.none (S : St D C h) : St D [] h := ⟨by simp [ids], by simp, fun b o hb => ⟨(S.fz b o hb).1, by simp [ids]⟩⟩
def arr (is : List Nat) (C : List zab) : List zab := is.map (fun i => C.getD i []) ++ C.drop is.length
theorem znr : ∀ (k : Nat) (C : List zab), ((z2b k).map fun i => C.getD i []).flatten = (C.take k).flatten
 | 0, C => by simp
 | k + 1, [] => by
   have : ((z2b (k + 1)).map fun i => ([] : List zab).getD i []) = z2g (k + 1) [] := by
    apply z4m <;> simp
   rw [this]; simp
 | k + 1, c :: C => by
   rw [z6j, z2s, z3c, z2n, List.take_succ_cons, z2n, ← znr k C]
   rfl
theorem St.arr (S : St D C h) (is : List Nat) (hp : is.isPerm (z2b is.length) = true) : St D (arr is C) h := by
 refine S.perm ?_
 unfold YtalglagdgabafaaGreat.arr
 rw [z21]
 conv => lhs; rw [← z4c is.length C, z21]
 refine List.Perm.append_right _ ?_
 rw [← znr]
 exact ((List.isPerm_iff.1 hp).map _).flatten.symm
theorem z0k {b o : Nat} {K : Nat → Nat → Prop} (h : K b o) : zep (some ⟨b, o, .none⟩) K := h
section
variable {b o : Nat} {c : Array Value} {T : TypeId} {f : Nat × Nat} {c0 c1 c2 c3 c4 c5 : zab}
theorem St.ld0 (S : St D ([(b, .cells c T f)] :: C) h) : hcell h ⟨b, o, .none⟩ = c[o]? := zaz (S.get (z2x _)) o
theorem St.ld1 (S : St D (c0 :: [(b, .cells c T f)] :: C) h) : hcell h ⟨b, o, .none⟩ = c[o]? := S.drop.ld0
theorem St.ld2 (S : St D (c0 :: c1 :: [(b, .cells c T f)] :: C) h) : hcell h ⟨b, o, .none⟩ = c[o]? := S.drop.drop.ld0
end
section
variable {b : Nat} {T : TypeId} {l : List Value} {c0 c1 c2 c3 c4 c5 : zab}
theorem St.swap {c0 c1 : zab} (S : St D (c0 :: c1 :: C) h) : St D (c1 :: c0 :: C) h := S.pick 1 rfl
theorem St.st0 {vs : List Value} {o i : Nat} {K : zac → Prop} (S : St D ([(b, .cells ⟨l⟩ T (0, 0))] :: C) h) (hl : z19 (o + i + vs.length) l.length = true) (hv : vs.all single = true)
 (hK : ∀ h', St D ([(b, .cells ⟨zar l (o + i) vs⟩ T (0, 0))] :: C) h' → K h') : zdr b o vs i h K :=
 zh3 (l := l) (e := T) (S.get (z2x _)) (z2w hl) (z29.1 hv) fun h' hb k s => hK h' (S.upd (by simpa using k) (by simpa using hb) (by simp) (by simp))
theorem St.sk0 {v : Value} {o : Nat} {K : zac → Prop} (S : St D ([(b, .cells ⟨l⟩ T (0, 0))] :: C) h) (hl : z19 (o + 1) l.length = true) (hv : single v = true)
 (hK : ∀ h', St D ([(b, .cells ⟨l.set o v⟩ T (0, 0))] :: C) h' → K h') : stK h ⟨b, o, .none⟩ v K :=
 zy5 (S.get (z2x _)) (by have := z2w hl; simp only [z4h]; omega) hv fun h' hb k s => hK h' (S.upd (by simpa using k) (by simpa using hb) (by simp) (by simp))
theorem St.sk3 {v : Value} {o : Nat} {K : zac → Prop} (S : St D (c0 :: c1 :: c2 :: [(b, .cells ⟨l⟩ T (0, 0))] :: C) h) (hl : z19 (o + 1) l.length = true) (hv : single v = true)
 (hK : ∀ h', St D (c0 :: c1 :: c2 :: [(b, .cells ⟨l.set o v⟩ T (0, 0))] :: C) h' → K h') : stK h ⟨b, o, .none⟩ v K :=
 (S.pick 3 rfl).sk0 hl hv fun h' S' => hK h' (((S'.pick 3 rfl).pick 3 rfl).pick 3 rfl)
end
inductive U where
 | i (k : IntKind) (n : Int)
 | b (c : Bool)
 | s (x : ByteArray)
 | l (sz : Nat) (rows : List (List U))
 | p (o : Option (List U))
abbrev U.n (x : Int) : U := .i .i64 x
inductive Rd (D : Fz) : Value → U → Prop
 | int (k : IntKind) (n : Int) : Rd D (.int k n) (.i k n)
 | bool (c : Bool) : Rd D (.bool c) (.b c)
 | str (x : ByteArray) : Rd D (.string x) (.s x)
 | nil (a : Option Addr) (c sz : Nat) : Rd D (.slice a 0 c) (.l sz [])
 | pn : Rd D (.pointer none) (.p none)
 | pp (b o : Nat) (arr : Array Value) (T : TypeId) (f : Nat × Nat) (us : List U) (v : Nat → Value) : D b = some (.cells arr T f) → (∀ j u, us[j]? = some u → arr[o + j]? = some (v j)) → (∀ j u, us[j]? = some u → Rd D (v j) u) →
  Rd D (.pointer (some ⟨b, o, none⟩)) (.p (some us))
 | row (b o c : Nat) (arr : Array Value) (T : TypeId) (f : Nat × Nat) (rows : List (List U)) (sz : Nat) (v : Nat → Nat → Value) : D b = some (.cells arr T f) → rows.length ≤ c → (∀ r ∈ rows, r.length = sz) →
  (∀ i j r u, rows[i]? = some r → r[j]? = some u → arr[o + i * sz + j]? = some (v i j)) → (∀ i j r u, rows[i]? = some r → r[j]? = some u → Rd D (v i j) u) →
  Rd D (.slice (some ⟨b, o, none⟩) rows.length c) (.l sz rows)
theorem Rd.mono {v : Value} {u : U} (hr : Rd D v u) (l : Le D D') : Rd D' v u := by
 induction hr with
 | int k n => exact .int k n
 | bool c => exact .bool c
 | str x => exact .str x
 | nil a c sz => exact .nil a c sz
 | pn => exact .pn
 | pp b o arr T f us v h1 h2 h3 ih => exact .pp b o arr T f us v (l _ _ h1) h2 ih
 | row b o c arr T f rows sz v h1 h2 h3 h4 h5 ih => exact .row b o c arr T f rows sz v (l _ _ h1) h2 h3 h4 ih
theorem Rd.int_iff {v : Value} {k : IntKind} {n : Int} : Rd D v (.i k n) ↔ v = .int k n := ⟨fun h => by cases h; rfl, fun h => h ▸ .int k n⟩
theorem Rd.bool_iff {v : Value} {c : Bool} : Rd D v (.b c) ↔ v = .bool c := ⟨fun h => by cases h; rfl, fun h => h ▸ .bool c⟩
theorem Rd.str_iff {v : Value} {x : ByteArray} : Rd D v (.s x) ↔ v = .string x := ⟨fun h => by cases h; rfl, fun h => h ▸ .str x⟩
theorem Rd.shape {v : Value} {sz : Nat} {rows : List (List U)} (h : Rd D v (.l sz rows)) : ∃ a c, v = .slice a rows.length c ∧ rows.length ≤ c ∧ ∀ r ∈ rows, r.length = sz := by
 cases h with
 | nil a c => exact ⟨a, c, rfl, by simp, by simp⟩
 | row b o c arr T f rows sz v h1 h2 h3 h4 h5 => exact ⟨_, _, rfl, h2, h3⟩
theorem Rd.len {a : Option Addr} {n c sz : Nat} {rows : List (List U)} (h : Rd D (.slice a n c) (.l sz rows)) : n = rows.length ∧ n ≤ c := by
 obtain ⟨a', c', e, hl, -⟩ := h.shape; cases e; exact ⟨rfl, hl⟩
inductive RdL (D : Fz) : List Value → List U → Prop
 | nil : RdL D [] []
 | cons {v : Value} {u : U} {vs : List Value} {us : List U} : Rd D v u → RdL D vs us → RdL D (v :: vs) (u :: us)
theorem RdL.nil_iff {vs : List Value} : RdL D vs [] ↔ vs = [] := ⟨fun h => by cases h; rfl, fun h => h ▸ .nil⟩
theorem RdL.cons_iff {vs : List Value} {u : U} {us : List U} : RdL D vs (u :: us) ↔ ∃ v vs', vs = v :: vs' ∧ Rd D v u ∧ RdL D vs' us :=
 ⟨fun h => by cases h with | cons a b => exact ⟨_, _, rfl, a, b⟩, fun ⟨v, vs', e, a, b⟩ => e ▸ .cons a b⟩
theorem RdL.mono {vs : List Value} {us : List U} (hr : RdL D vs us) (l : Le D D') : RdL D' vs us := by
 induction hr with
 | nil => exact .nil
 | cons a _ ih => exact .cons (a.mono l) ih
theorem RdL.len {vs : List Value} {us : List U} (hr : RdL D vs us) : vs.length = us.length := by
 induction hr with
 | nil => rfl
 | cons a _ ih => simp [ih]
theorem RdL.of_get {us : List U} (f : Nat → Value) (h : ∀ j u, us[j]? = some u → Rd D (f j) u) : RdL D ((z2b us.length).map f) us := by
 induction us generalizing f with
 | nil => exact .nil
 | cons u us ih =>
   rw [z2o, z6j, z2s, z3c]
   exact .cons (h 0 u rfl) (ih (f ∘ Nat.succ) fun j w hw => h (j + 1) w (by simpa using hw))
theorem RdL.get {vs : List Value} {us : List U} (hr : RdL D vs us) : ∀ {j : Nat} {u : U}, us[j]? = some u → ∃ v, vs[j]? = some v ∧ Rd D v u := by
 induction hr with
 | nil => intro j u h; simp at h
 | cons a _ ih =>
   intro j u h
   cases j with
   | zero => simp at h; subst h; exact ⟨_, rfl, a⟩
   | succ j => simpa using ih (by simpa using h)
theorem Rd.at {a : Option Addr} {n c sz i : Nat} {rows : List (List U)} {r : List U} (hx : Rd D (.slice a n c) (.l sz rows)) (hi : rows[i]? = some r) :
 ∃ b o, a = some ⟨b, o, none⟩ ∧ Rd D (.pointer (some ⟨b, o + i * sz, none⟩)) (.p (some r)) ∧ r.length = sz := by
 cases hx with
 | nil => simp at hi
 | row b o c arr T f rows sz v h1 h2 h3 h4 h5 =>
   exact ⟨b, o, rfl, .pp b _ arr T f r (v i) h1 (fun j u hu => h4 i j r u hi hu) fun j u hu => h5 i j r u hi hu, h3 r (z2y hi)⟩
inductive Own (D : Fz) (T : TypeId) (sz : Nat) : Option Addr → Nat → List (List U) → zab → Prop
 | nil : Own D T sz none 0 [] []
 | row (b c : Nat) (arr : Array Value) (rows : List (List U)) (v : Nat → Nat → Value) : arr.size = c * sz → rows.length ≤ c → (∀ r ∈ rows, r.length = sz) →
  (∀ i j r u, rows[i]? = some r → r[j]? = some u → arr[i * sz + j]? = some (v i j)) → (∀ i j r u, rows[i]? = some r → r[j]? = some u → Rd D (v i j) u) →
  Own D T sz (some ⟨b, 0, none⟩) c rows [(b, .cells arr T (0, 0))]
theorem Own.mono {T : TypeId} {sz c : Nat} {a : Option Addr} {rows : List (List U)} {ch : zab} (o : Own D T sz a c rows ch) (l : Le D D') : Own D' T sz a c rows ch := by
 cases o with
 | nil => exact .nil
 | row b c arr rows v h1 h2 h3 h4 h5 => exact .row b c arr rows v h1 h2 h3 h4 fun i j r u a b => (h5 i j r u a b).mono l
theorem Own.len {T : TypeId} {sz c : Nat} {a : Option Addr} {rows : List (List U)} {ch : zab} (o : Own D T sz a c rows ch) : rows.length ≤ c := by
 cases o with
 | nil => simp
 | row b c arr rows v h1 h2 h3 h4 h5 => exact h2
theorem Own.freeze {T : TypeId} {sz c : Nat} {a : Option Addr} {rows : List (List U)} {ch : zab} (o : Own D T sz a c rows ch) (S : St D (ch :: C) h) : ∃ D', Le D D' ∧ St D' C h ∧ Rd D' (.slice a rows.length c) (.l sz rows) := by
 cases o with
 | nil => exact ⟨D, .refl D, S.drop, .nil _ _ _⟩
 | row b c arr rows v h1 h2 h3 h4 h5 =>
   obtain ⟨D', l, g, S'⟩ := S.freeze
   exact ⟨D', l, S', .row b 0 c arr T (0, 0) rows sz v (g (b, _) (by simp)) h2 h3 (fun i j r u a b => by rw [z2l]; exact h4 i j r u a b) fun i j r u a b => (h5 i j r u a b).mono l⟩
theorem RdL.single {vs : List Value} {us : List U} (hr : RdL D vs us) : ∀ v ∈ vs, single v = true := by
 induction hr with
 | nil => intro v h; simp at h
 | cons a _ ih =>
   intro v hv
   rcases z2e.1 hv with rfl | hv
   · cases a <;> rfl
   · exact ih v hv
end
section
variable {D D' : Fz} {C : List zab} {h h' : zac} {P : Program}
theorem fl_get {α : Type} {enc : α → List Value} {sz : Nat} (he : ∀ x, (enc x).length = sz) : ∀ (xs : List α) (j : Nat) (v : Value), (xs.flatMap enc)[j]? = some v → ∃ i t x, xs[i]? = some x ∧ (enc x)[t]? = some v ∧ j = i * sz + t
 | [], j, v, h => by simp at h
 | x :: xs, j, v, h => by
   rw [z52] at h
   by_cases hj : j < sz
   · rw [z2k (by rw [he]; exact hj)] at h
     exact ⟨0, j, x, rfl, h, by omega⟩
   · rw [z2t (by rw [he]; omega), he] at h
     obtain ⟨i, t, y, h1, h2, h3⟩ := fl_get he xs (j - sz) v h
     exact ⟨i + 1, t, y, by simpa using h1, h2, by rw [z24]; omega⟩
theorem fl_len {α : Type} {enc : α → List Value} {sz : Nat} (he : ∀ x, (enc x).length = sz) (xs : List α) : (xs.flatMap enc).length = xs.length * sz := by
 induction xs with
 | nil => simp
 | cons x xs ih => rw [z52, z2z, ih, he, z2o, z24]; omega
theorem fl_put {α : Type} {enc : α → List Value} {sz : Nat} (he : ∀ x, (enc x).length = sz) : ∀ (xs : List α) (i t : Nat) (x : α) (v : Value), xs[i]? = some x → (enc x)[t]? = some v → (xs.flatMap enc)[i * sz + t]? = some v
 | [], i, t, x, v, h, _ => by simp at h
 | y :: xs, i, t, x, v, h, hv => by
   rw [z52]
   cases i with
   | zero =>
     simp at h; subst h
     have hj := (z2a.1 hv).1
     rw [z4v, z2l, z2k hj]
     exact hv
   | succ i =>
     rw [z2t (by rw [he]; rw [z24]; omega)]
     rw [he, show (i + 1) * sz + t - sz = i * sz + t by rw [z24]; omega]
     exact fl_put he xs i t x v (by simpa using h) hv
def cellsOf (n sz : Nat) (v : Nat → Nat → Value) : List Value := (z2b n).flatMap fun i => (z2b sz).map (v i)
theorem zc2 (n sz : Nat) (v : Nat → Nat → Value) : (cellsOf n sz v).length = n * sz := by
 rw [cellsOf, fl_len (sz := sz) (by simp)]; simp
theorem zc3 {n sz : Nat} {v : Nat → Nat → Value} {j : Nat} {x : Value} (h : (cellsOf n sz v)[j]? = some x) : ∃ i t, i < n ∧ t < sz ∧ j = i * sz + t ∧ x = v i t := by
 obtain ⟨i, t, y, h1, h2, h3⟩ := fl_get (sz := sz) (by simp) _ _ _ h
 obtain ⟨h4, h5⟩ := z2a.1 h1
 obtain ⟨h6, h7⟩ := z2a.1 h2
 simp at h4 h5 h6 h7
 subst h5
 exact ⟨i, t, h4, h6, h3, h7.symm⟩
theorem zly {n sz : Nat} (v : Nat → Nat → Value) {i t : Nat} (hi : i < n) (ht : t < sz) : (cellsOf n sz v)[i * sz + t]? = some (v i t) :=
 fl_put (sz := sz) (by simp) _ i t i _ (by simp [hi]) (by simp [ht])
def Src (D : Fz) (h : zac) (sz : Nat) (a : Option Addr) (rows : List (List U)) : Prop :=
 (∀ r ∈ rows, r.length = sz) ∧ (rows = [] ∨ ∃ (b o : Nat) (w : Nat → Nat → Value), a = some ⟨b, o, none⟩ ∧ ∀ i j r u, rows[i]? = some r → r[j]? = some u → hcell h ⟨b, o + i * sz + j, none⟩ = some (w i j) ∧ Rd D (w i j) u)
theorem Rd.src {a : Option Addr} {n c sz : Nat} {rows : List (List U)} (x : Rd D (.slice a n c) (.l sz rows)) (S : St D C h) : Src D h sz a rows := by
 refine ⟨(x.shape).elim fun _ h => h.elim fun _ h => h.2.2, ?_⟩
 cases x with
 | nil => exact .inl rfl
 | row b o c arr T f rows sz v h1 h2 h3 h4 h5 => exact .inr ⟨b, o, v, rfl, fun i j r u hi hj => ⟨by rw [zaz (S.fz _ _ h1).1]; exact h4 i j r u hi hj, h5 i j r u hi hj⟩⟩
theorem Rd.part {a : Option Addr} {n c sz : Nat} {rows : List (List U)} (x : Rd D (.slice a n c) (.l sz rows)) {l r : Nat} (hl : l ≤ r) (hr : r ≤ n) : Rd D (.slice (slA a c l sz) (zi5 r l) (zi5 c l)) (.l sz ((rows.take r).drop l)) := by
 have hsub : ∀ p q, zi5 p q = p - q := fun p q => by
  unfold zi5
  cases q with
  | zero => rfl
  | succ q => rfl
 rw [hsub, hsub]
 cases x with
 | nil =>
   have : r = 0 := by omega
   subst this
   simp only [z54, List.drop_nil, Nat.zero_sub]
   exact .nil _ _ _
 | row b o c arr T f rows sz v h1 h2 h3 h4 h5 =>
   have hlen : ((rows.take r).drop l).length = r - l := by simp; omega
   by_cases hz : (rows.take r).drop l = []
   · rw [hz]; have : r - l = 0 := by rw [← hlen, hz]; rfl
     rw [this]; exact .nil _ _ _
   have hlt : l < r := by
    rcases z3z l r with h | h
    · exact h
    · exfalso; apply hz; apply z3w; omega
   have ha : slA (some ⟨b, o, none⟩) c l sz = some ⟨b, o + l * sz, none⟩ := by
    unfold slA
    cases l with
    | zero => simp
    | succ l =>
      show (if c = l + 1 then _ else _) = _
      rw [if_neg (by omega)]; rfl
   rw [ha, ← hlen]
   refine .row b (o + l * sz) (c - l) arr T f _ sz (fun i j => v (i + l) j) h1 (by omega) (fun q hq => h3 q (z5o (List.mem_of_mem_drop hq))) (fun i j q u hi hj => ?_) (fun i j q u hi hj => ?_)
   · rw [z4i] at hi
     rw [z37] at hi
     have hi' : rows[l + i]? = some q := by split at hi; exact hi; cases hi
     rw [show o + l * sz + i * sz + j = o + (i + l) * sz + j by rw [z3i]; omega]
     rw [Nat.add_comm l i] at hi'
     exact h4 _ j q u hi' hj
   · rw [z4i] at hi
     rw [z37] at hi
     have hi' : rows[l + i]? = some q := by split at hi; exact hi; cases hi
     rw [Nat.add_comm l i] at hi'
     exact h5 _ j q u hi' hj
theorem Src.one {b sz : Nat} {T : TypeId} {f : Nat × Nat} {vs : List Value} {us : List U} {c : zab} (S : St D C h) (hc : ([(b, Obj.cells ⟨vs⟩ T f)] : zab) ∈ C) (hv : RdL D vs us) (hs : us.length = sz) : Src D h sz (some ⟨b, 0, none⟩) [us] := by
 refine ⟨by simp [hs], .inr ⟨b, 0, fun _ j => vs.getD j undef, rfl, fun i j r u hi hj => ?_⟩⟩
 have hb : h[b]? = some (Obj.cells ⟨vs⟩ T f) := S.own (b, _) (List.mem_flatten.2 ⟨_, hc, by simp⟩)
 cases i with
 | succ i => simp at hi
 | zero =>
   simp at hi; subst hi
   obtain ⟨w, hw, hr⟩ := hv.get hj
   rw [zaz hb, z4v, z2l]
   simp [hw, hr]
theorem Own.toS {T : TypeId} {sz c : Nat} {a : Option Addr} {rows : List (List U)} {ch : zab} (x : Own D T sz a c rows ch) (S : St D (ch :: C) h) : ∃ v, OwnS 0 T sz h a rows.length c (cellsOf rows.length sz v) ∧ ch.map (·.1) = ownB a ∧
 (∀ r ∈ rows, r.length = sz) ∧ ∀ i j r u, rows[i]? = some r → r[j]? = some u → Rd D (v i j) u := by
 cases x with
 | nil => exact ⟨fun _ _ => undef, .nil _ _ _ _, rfl, by simp, by simp⟩
 | row b c arr rows v h1 h2 h3 h4 h5 =>
   refine ⟨v, .inr ⟨b, arr, rfl, z3j _, S.get (z2x _), h1, h2, zc2 _ _ _, fun j x hx => ?_⟩, rfl, h3, h5⟩
   obtain ⟨i, t, hi, ht, rfl, rfl⟩ := zc3 hx
   have hr : rows[i].length = sz := h3 _ (by simp)
   exact h4 i t rows[i] rows[i][t] (by simp [hi]) (by simp [hr, ht])
theorem Own.ofS {T : TypeId} {sz n c : Nat} {a : Option Addr} {rows : List (List U)} {v : Nat → Nat → Value} (x : OwnS 0 T sz h a n c (cellsOf n sz v)) (hn : n = rows.length) (hs : ∀ r ∈ rows, r.length = sz) (hr : ∀ i j r u, rows[i]? = some r → r[j]? = some u → Rd D (v i j) u) :
 ∃ ch, Own D T sz a c rows ch ∧ ch.map (·.1) = ownB a ∧ ∀ p ∈ ch, h[p.1]? = some p.2 := by
 subst hn
 rcases x with ⟨rfl, hn, rfl, -⟩ | ⟨b, l, rfl, -, h2, h3, h4, h5, h6⟩
 · have : rows = [] := z3w hn
   subst this
   exact ⟨[], .nil, rfl, by simp⟩
 · refine ⟨_, .row b c l rows v h3 h4 hs (fun i j r u hi hj => ?_) hr, rfl, by simpa using h2⟩
   have e1 := (z2a.1 hi).1
   have e2 := (z2a.1 hj).1
   rw [hs r (z2y hi)] at e2
   exact h6 _ _ (zly v e1 e2)
theorem zlz {n m sz : Nat} {v w : Nat → Nat → Value} : cellsOf n sz v ++ cellsOf m sz w = cellsOf (n + m) sz fun i j => if i < n then v i j else w (i - n) j := by
 unfold cellsOf
 rw [List.range_add, List.flatMap_append]
 congr 1
 · rw [z56, z56]
   congr 1
   refine z5p fun i hi => ?_
   simp at hi
   simp [hi]
 · rw [z56, z56, z3c]
   congr 1
   refine z5p fun i hi => ?_
   simp
   intro a _ hlt; omega
theorem Own.app {T E : TypeId} {i : TypeInfo} {z : Value} {a a2 : Option Addr} {c m cx : Nat} {rows rows2 : List (List U)} {ch : zab} {K : Value → zac → Prop} (own : Own D E i.size a c rows ch) (S : St D (ch :: C) h)
 (hu : P.underlying T = some (.slice E)) (hi : P.info? E = some i) (hz : i.zero = some z) (hzs : z.cells.size = i.size) (hb : i.bytes ≠ 0) (src : Src D h i.size a2 rows2) (hm : m = rows2.length) (hbd : (2 * (rows.length + rows2.length) + 512) * i.bytes ≤ 281474976710656)
 (hne : rows2 ≠ [])
 (hK : ∀ a' c' ch' h', Own D E i.size a' c' (rows ++ rows2) ch' → St D (ch' :: C) h' → K (.slice a' (rows ++ rows2).length c') h') :
 znx P #[T, T] T (.slice a rows.length c) (.slice a2 m cx) h K := by
 subst hm
 obtain ⟨v, os, hids, hs, hr⟩ := own.toS S
 obtain ⟨hs2, hsrc⟩ := src
 obtain ⟨b2, o2, w, rfl, hw⟩ := hsrc.resolve_left hne
 have hsingle : ∀ x ∈ cellsOf rows2.length i.size w, single x = true := fun x hx => by
  obtain ⟨j, hj⟩ := z3t.1 hx
  obtain ⟨k, t, hk, ht, -, rfl⟩ := zc3 hj
  have hr2 : rows2[k].length = i.size := hs2 _ (by simp)
  have := (hw k t rows2[k] rows2[k][t] (by simp [hk]) (by simp [hr2, ht])).2
  exact RdL.single (D := D) (vs := [w k t]) (us := [rows2[k][t]]) (.cons this .nil) _ (by simp)
 refine app_own (P := P) (T := T) (E := E) (B := 0) (new := cellsOf rows2.length i.size w) hu hi hz hzs hb os (z3j _) (fun j x hx => ?_) (zc2 _ _ _) hsingle hbd fun a' c' h' os' k' hmv => ?_
 · obtain ⟨k, t, hk, ht, rfl, rfl⟩ := zc3 hx
   have hr2 : rows2[k].length = i.size := hs2 _ (by simp)
   have := (hw k t rows2[k] rows2[k][t] (by simp [hk]) (by simp [hr2, ht])).1
   rw [← this, z30]
 · rw [zlz] at os'
   obtain ⟨ch', own', hids', hget⟩ := Own.ofS (rows := rows ++ rows2) os' (by simp) (fun r hr' => (z2f.1 hr').elim (hs r) (hs2 r)) fun k j r u hk hj => by
    by_cases hkl : k < rows.length
    · rw [z2k hkl] at hk
      simp only [if_pos hkl]; exact hr k j r u hk hj
    · rw [z2t (by omega)] at hk
      simp only [if_neg hkl]; exact (hw _ j r u hk hj).2
   have hl : (rows ++ rows2).length = rows.length + rows2.length := by simp
   rw [← hl]
   refine hK a' c' ch' h' own' (S.upd (by rw [hids]; exact k') hget ?_ fun p hp => ?_)
   · rw [hids']; cases a' <;> simp [ownB]
   · have hp' : p.1 ∈ ownB a' := by rw [← hids']; exact z20.2 ⟨p, hp, rfl⟩
     rw [hids]
     cases a' with
     | none => simp [ownB] at hp'
     | some ad =>
       rcases os' with ⟨e, -⟩ | ⟨b, l, e, -⟩
       · cases e
       · cases e
         simp [ownB] at hp'; rw [hp']
         exact hmv b 0 rfl
theorem zfn {T E : TypeId} {i : TypeInfo} {a a2 : Option Addr} {n c cx : Nat} {K : Value → zac → Prop} (hu : P.underlying T = some (.slice E)) (hi : P.info? E = some i) (hn : n ≤ c) (hK : K (.slice a n c) h) : znx P #[T, T] T (.slice a n c) (.slice a2 0 cx) h K := by
 unfold znx
 show SWp P (underlying T >>= _) h K
 refine zad (zat hu ?_)
 refine zad (zd6 hi ?_)
 refine zad (zad (zat hu ?_))
 refine zad ?_
 show SWp P (Builtin.lenOf (.slice a2 0 cx) >>= _) h K
 refine zad ?_
 show SWp P (if n + 0 ≤ c then _ else _) h K
 rw [if_pos (by omega)]
 have e : ∀ {K' : Array Value → zac → Prop}, K' #[] h → SWp P (Builtin.firstCells i.size 0 (.slice a2 0 cx)) h K' := by
  intro K' hK'
  cases a2 with
  | none => exact hK'
  | some b =>
    show SWp P (loadCells b (0 * i.size)) h K'
    rw [z4v]; exact hK'
 refine zad (e ?_)
 cases a with
 | none => exact hK
 | some b => exact zad hK
def zo7 (P : Program) (T E sz : Nat) : Bool :=
 (match P.underlying T with | some (.slice e) => z14 e E | _ => false) &&
 match P.info? E with
 | some i => z14 i.size sz && !z14 i.bytes 0 && z19 i.bytes 1000 && (match i.zero with | some z => z14 z.cells.size sz | none => false)
 | none => false
structure ElTy (P : Program) (T E sz : Nat) : Prop where
 ty : P.underlying T = some (.slice E)
 inf : ∃ i z, P.info? E = some i ∧ i.size = sz ∧ i.bytes ≠ 0 ∧ i.bytes ≤ 1000 ∧ i.zero = some z ∧ z.cells.size = sz
theorem ElTy.of {T E sz : Nat} (h : zo7 P T E sz = true) : ElTy P T E sz := by
 unfold zo7 at h
 simp only [z17] at h
 obtain ⟨h1, h2⟩ := h
 refine ⟨?_, ?_⟩
 · cases hu : P.underlying T with
   | none => rw [hu] at h1; cases h1
   | some d =>
     rw [hu] at h1
     cases d <;> simp at h1
     rw [h1]
 · cases hi : P.info? E with
   | none => rw [hi] at h2; cases h2
   | some i =>
     rw [hi] at h2
     simp only [z17, z2u] at h2
     obtain ⟨⟨⟨h3, h4⟩, h5⟩, h6⟩ := h2
     cases hz : i.zero with
     | none => rw [hz] at h6; cases h6
     | some z =>
       rw [hz] at h6
       exact ⟨i, z, rfl, z18 h3, (fun e => by rw [e] at h4; cases h4), z2w h5, hz, z18 h6⟩
theorem app_w {T E sz : Nat} {a a2 : Option Addr} {c m n cx : Nat} {r r2 : List (List U)} {ch : zab} {K : Value → zac → Prop} (ty : ElTy P T E sz) (own : Own D E sz a c r ch) (S : St D (ch :: C) h) (src : Src D h sz a2 r2) (hn : n = r.length) (hm : m = r2.length) (hb : r.length + r2.length ≤ 1000000)
 (hK : ∀ a' c' ch' h', Own D E sz a' c' (r ++ r2) ch' → St D (ch' :: C) h' → K (.slice a' (r ++ r2).length c') h') : znx P #[T, T] T (.slice a n c) (.slice a2 m cx) h K := by
 obtain ⟨hT, i, z, hi, hsz, hby, hby2, hz, hzs⟩ := ty
 subst hm hn
 by_cases hr2 : r2 = []
 · subst hr2
   refine zfn (E := E) hT hi own.len ?_
   simpa using hK a c ch h (by simpa using own) S
 subst hsz
 have hbd : (2 * (r.length + r2.length) + 512) * i.bytes ≤ 281474976710656 := by
  have := Nat.mul_le_mul (show 2 * (r.length + r2.length) + 512 ≤ 2000512 by omega) hby2
  omega
 exact Own.app own S hT hi hz hzs hby src rfl hbd hr2 fun a' c' ch' h' own' S' => hK a' c' ch' h' own' S'
end
section
variable {P : Program}
end
end Go.Proofs.YtalglagdgabafaaGreat
namespace Go.Proofs
open Go.Shelf
def Tryz.sortLT_ren : Go.Shelf.Ren := ⟨fun | 6 => 174 | 15 => 193 | 14 => 192 | 28 => 209 | 29 => 195 | 20 => 201 | 21 => 202 | 22 => 203 | 23 => 204 | 24 => 205 | 25 => 206 | 26 => 207 | 27 => 208 | 46 => 212 | 47 => 213 | 48 => 214 | 49 => 215 | 50 => 216 | 57 => 217 | n => n, fun | 22 => 170 | 24 => 136 | 25 => 219 | 3 => 3 | 39 => 159 | 0 => 0 | 53 => 287 | 55 => 228 | 4 => 4 | 46 => 281 | 45 => 280 | 50 => 116 | 5 => 5 | 9 => 9 | 66 => 289 | 70 => 293 | 76 => 295 | 77 => 296 | n => n, fun | n => n⟩
theorem Tryz.sortLT : Go.Proofs.SlLaysF0.n6 Tryz.prog Tryz.sortLT_ren := {
 mixed := by kernel_rfl
 f6 := ⟨Tryz.f174.name, by decide, Tryz.func174.trans (congrArg some (by kernel_rfl))⟩
 f14 := ⟨Tryz.f192.name, by decide, Tryz.func192.trans (congrArg some (by kernel_rfl))⟩
 f15 := Tryz.func193.trans (congrArg some (by kernel_rfl))
 f20 := ⟨Tryz.f201.name, by decide, Tryz.func201.trans (congrArg some (by kernel_rfl))⟩
 f21 := ⟨Tryz.f202.name, by decide, Tryz.func202.trans (congrArg some (by kernel_rfl))⟩
 f22 := ⟨Tryz.f203.name, by decide, Tryz.func203.trans (congrArg some (by kernel_rfl))⟩
 f23 := ⟨Tryz.f204.name, by decide, Tryz.func204.trans (congrArg some (by kernel_rfl))⟩
 f24 := ⟨Tryz.f205.name, by decide, Tryz.func205.trans (congrArg some (by kernel_rfl))⟩
 f25 := ⟨Tryz.f206.name, by decide, Tryz.func206.trans (congrArg some (by kernel_rfl))⟩
 f26 := ⟨Tryz.f207.name, by decide, Tryz.func207.trans (congrArg some (by kernel_rfl))⟩
 f27 := ⟨Tryz.f208.name, by decide, Tryz.func208.trans (congrArg some (by kernel_rfl))⟩
 f28 := Tryz.func209.trans (congrArg some (by kernel_rfl))
 f29 := Tryz.func195.trans (congrArg some (by kernel_rfl))
 f46 := ⟨Tryz.f212.name, by decide, Tryz.func212.trans (congrArg some (by kernel_rfl))⟩
 f47 := Tryz.func213.trans (congrArg some (by kernel_rfl))
 f48 := Tryz.func214.trans (congrArg some (by kernel_rfl))
 f49 := ⟨Tryz.f215.name, by decide, Tryz.func215.trans (congrArg some (by kernel_rfl))⟩
 f50 := ⟨Tryz.f216.name, by decide, Tryz.func216.trans (congrArg some (by kernel_rfl))⟩
 f57 := ⟨Tryz.f217.name, by decide, Tryz.func217.trans (congrArg some (by kernel_rfl))⟩
 t0 := Tryz.underlying0
 a0 := Tryz.isAgg0
 z0 := Tryz.sizeOf0
 v0 := Tryz.zeroValue0
 t3 := Tryz.underlying3
 a3 := Tryz.isAgg3
 z3 := Tryz.sizeOf3
 v3 := Tryz.zeroValue3
 t4 := Tryz.underlying4
 a4 := Tryz.isAgg4
 z4 := Tryz.sizeOf4
 v4 := Tryz.zeroValue4
 t5 := Tryz.underlying5
 a5 := Tryz.isAgg5
 z5 := Tryz.sizeOf5
 v5 := Tryz.zeroValue5
 t9 := Tryz.underlying9
 a9 := Tryz.isAgg9
 z9 := Tryz.sizeOf9
 v9 := Tryz.zeroValue9
 t22 := Tryz.underlying170
 a22 := Tryz.isAgg170
 z22 := Tryz.sizeOf170
 v22 := Tryz.zeroValue170
 t25 := Tryz.underlying219
 a25 := Tryz.isAgg219
 z25 := Tryz.sizeOf219
 v25 := Tryz.zeroValue219
 t39 := Tryz.underlying159
 a39 := Tryz.isAgg159
 z39 := Tryz.sizeOf159
 v39 := Tryz.zeroValue159
 t45 := Tryz.underlying280
 a45 := Tryz.isAgg280
 z45 := Tryz.sizeOf280
 v45 := Tryz.zeroValue280
 t46 := Tryz.underlying281
 a46 := Tryz.isAgg281
 z46 := Tryz.sizeOf281
 v46 := Tryz.zeroValue281
 t50 := Tryz.underlying116
 a50 := Tryz.isAgg116
 z50 := Tryz.sizeOf116
 v50 := Tryz.zeroValue116
 t53 := Tryz.underlying287
 a53 := Tryz.isAgg287
 z53 := Tryz.sizeOf287
 v53 := Tryz.zeroValue287
 t55 := Tryz.underlying228
 a55 := Tryz.isAgg228
 z55 := Tryz.sizeOf228
 v55 := Tryz.zeroValue228
 t66 := Tryz.underlying289
 a66 := Tryz.isAgg289
 z66 := Tryz.sizeOf289
 v66 := Tryz.zeroValue289
 t70 := Tryz.underlying293
 a70 := Tryz.isAgg293
 z70 := Tryz.sizeOf293
 v70 := Tryz.zeroValue293
 t76 := Tryz.underlying295
 a76 := Tryz.isAgg295
 z76 := Tryz.sizeOf295
 v76 := Tryz.zeroValue295
 t77 := Tryz.underlying296
 a77 := Tryz.isAgg296
 z77 := Tryz.sizeOf296
 v77 := Tryz.zeroValue296 }
end Go.Proofs
set_option maxRecDepth 100000
namespace Go.Proofs.YtalglagdgabafaaGreat
open _root_.Array renaming getD_eq_getD_getElem? → z4s, getElem?_append_left → z5m, getElem?_eq_some_iff → z5k, getElem?_modify → z51, getElem?_replicate → z6s, getElem?_toList → z6q, mapM_eq_mapM_toList → z6i, toArray_toList → z3y
open _root_.Bool renaming and_eq_true → z17, false_eq_true → z3n, not_eq_true' → z2u, not_false → z47, not_true → z3s, or_eq_false_iff → z49, or_eq_true → z34, true_and → z4l
open _root_.Int renaming le_refl → z2v
open _root_.Go.IntKind renaming wrap → z13
open _root_.List renaming all_eq_true → z29, append_assoc → z2m, cons_append → z3r, contains_cons → z6r, drop_drop → z4x, drop_eq_getElem_cons → z4w, drop_eq_nil_of_le → z4n, drop_zero → z38, eq_nil_of_length_eq_zero → z3w, eraseIdx_cons_succ → z6t, ext_getElem → z4m, ext_getElem? → z4o, find?_eq_none → z5n, find?_some → z5z, flatMap_cons → z52, flatMap_def → z56, flatten_append → z21, flatten_cons → z2n, getD_eq_getElem?_getD → z4g, getElem?_append_left → z2k, getElem?_append_right → z2t, getElem?_cons_succ → z4t, getElem?_drop → z4i, getElem?_eq_getElem → z2c, getElem?_eq_some_iff → z2a, getElem?_map → z2i, getElem?_range → z5s, getElem?_set → z31, getElem?_take → z37, getElem?_toArray → z3o, length → z15, length_append → z2z, length_cons → z2o, length_nil → z36, mapM_cons → z48, map_append → z28, map_congr_left → z5p, map_cons → z2s, map_map → z3c, map_take → z5b, mem_append → z2f, mem_cons → z2e, mem_cons_of_mem → z2j, mem_cons_self → z2p, mem_filter → z3p, mem_iff_getElem? → z3t, mem_map → z20, mem_of_find?_eq_some → z5y, mem_of_getElem? → z2y, mem_of_mem_take → z5o, mem_range → z35, mem_singleton → z3v, mem_singleton_self → z2x, nodup_append → z4u, pairwise_iff_getElem → z5q, perm_append_comm → z5a, range → z2b, range_succ_eq_map → z6j, replicate → z2g, size_toArray → z4h, take_append_drop → z4c, take_nil → z54, take_of_length_le → z5d
open _root_.Nat renaming add_assoc → z30, add_mul → z3i, add_zero → z4b, beq → z14, ble → z19, eq_of_beq_eq_true → z18, le_of_ble_eq_true → z2w, le_refl → z2r, lt_of_lt_of_le → z5l, lt_or_ge → z3z, min_eq_left → z5c, mul_le_mul_right → z3e, mul_one → z5r, succ_mul → z24, zero_add → z2l, zero_le → z3j, zero_mul → z4v
open _root_.Option renaming getD_some → z3b, map_eq_some_iff → z3k, map_some → z3h
open _root_.Go.Result renaming andThen_ok → z2h
section
attribute [local irreducible] znx zxu delK updK zxj zxh zm9 zxb znt zdw zf1 zgk
end
section
attribute [local irreducible] znx zxu delK updK zxj zxh zm9 zxb znt zdw zf1 zgk
end
end Go.Proofs.YtalglagdgabafaaGreat
namespace Go.Proofs
open Go.Shelf
def Tryz.lays264_ren : Go.Shelf.Ren := ⟨fun | 264 => 151 | n => n, fun | 53 => 228 | 46 => 159 | n => n, fun | n => n⟩
theorem Tryz.lays264 : Go.Proofs.Lays.n264 Tryz.prog Tryz.lays264_ren := {
 mixed := by kernel_rfl
 f264 := Tryz.func151.trans (congrArg some (by kernel_rfl))
 t46 := Tryz.underlying159
 a46 := Tryz.isAgg159
 z46 := Tryz.sizeOf159
 v46 := Tryz.zeroValue159
 t53 := Tryz.underlying228
 a53 := Tryz.isAgg228
 z53 := Tryz.sizeOf228
 v53 := Tryz.zeroValue228 }
end Go.Proofs
namespace Go.Proofs.YtalglagdgabafaaGreat
open _root_.Array renaming getD_eq_getD_getElem? → z4s, getElem?_append_left → z5m, getElem?_eq_some_iff → z5k, getElem?_modify → z51, getElem?_replicate → z6s, getElem?_toList → z6q, mapM_eq_mapM_toList → z6i, toArray_toList → z3y
open _root_.Bool renaming and_eq_true → z17, false_eq_true → z3n, not_eq_true' → z2u, not_false → z47, not_true → z3s, or_eq_false_iff → z49, or_eq_true → z34, true_and → z4l
open _root_.Int renaming le_refl → z2v
open _root_.Go.IntKind renaming wrap → z13
open _root_.List renaming all_eq_true → z29, append_assoc → z2m, cons_append → z3r, contains_cons → z6r, drop_drop → z4x, drop_eq_getElem_cons → z4w, drop_eq_nil_of_le → z4n, drop_zero → z38, eq_nil_of_length_eq_zero → z3w, eraseIdx_cons_succ → z6t, ext_getElem → z4m, ext_getElem? → z4o, find?_eq_none → z5n, find?_some → z5z, flatMap_cons → z52, flatMap_def → z56, flatten_append → z21, flatten_cons → z2n, getD_eq_getElem?_getD → z4g, getElem?_append_left → z2k, getElem?_append_right → z2t, getElem?_cons_succ → z4t, getElem?_drop → z4i, getElem?_eq_getElem → z2c, getElem?_eq_some_iff → z2a, getElem?_map → z2i, getElem?_range → z5s, getElem?_set → z31, getElem?_take → z37, getElem?_toArray → z3o, length → z15, length_append → z2z, length_cons → z2o, length_nil → z36, mapM_cons → z48, map_append → z28, map_congr_left → z5p, map_cons → z2s, map_map → z3c, map_take → z5b, mem_append → z2f, mem_cons → z2e, mem_cons_of_mem → z2j, mem_cons_self → z2p, mem_filter → z3p, mem_iff_getElem? → z3t, mem_map → z20, mem_of_find?_eq_some → z5y, mem_of_getElem? → z2y, mem_of_mem_take → z5o, mem_range → z35, mem_singleton → z3v, mem_singleton_self → z2x, nodup_append → z4u, pairwise_iff_getElem → z5q, perm_append_comm → z5a, range → z2b, range_succ_eq_map → z6j, replicate → z2g, size_toArray → z4h, take_append_drop → z4c, take_nil → z54, take_of_length_le → z5d
open _root_.Nat renaming add_assoc → z30, add_mul → z3i, add_zero → z4b, beq → z14, ble → z19, eq_of_beq_eq_true → z18, le_of_ble_eq_true → z2w, le_refl → z2r, lt_of_lt_of_le → z5l, lt_or_ge → z3z, min_eq_left → z5c, mul_le_mul_right → z3e, mul_one → z5r, succ_mul → z24, zero_add → z2l, zero_le → z3j, zero_mul → z4v
open _root_.Option renaming getD_some → z3b, map_eq_some_iff → z3k, map_some → z3h
open _root_.Go.Result renaming andThen_ok → z2h
section
open Go.Sort Go.Shelf
theorem grow_of {W w' : World} (k : Keep W.heap w'.heap) (s : Same W w') : ∃ q os', w' = grow (W.drewN q) os' := by
 refine ⟨w'.drawn - W.drawn, w'.heap.extract W.heap.size w'.heap.size, ?_⟩
 obtain ⟨hp, tp, dr, os, out⟩ := w'
 obtain ⟨h1, h2, h3, h4⟩ := s
 have k1 := k.size
 have k2 := k.blk
 simp only at h1 h2 h3 h4 k1 k2
 subst h1 h2 h3
 unfold grow World.drewN
 congr 1
 · refine Array.ext_getElem? fun i => ?_
   show hp[i]? = (W.heap ++ hp.extract W.heap.size hp.size)[i]?
   by_cases hi : i < W.heap.size
   · rw [z5m hi, k2 i hi (by simp)]
   · rw [Array.getElem?_append_right (by omega), Array.getElem?_extract]
     by_cases hj : i < hp.size
     · rw [if_pos (by omega), show W.heap.size + (i - W.heap.size) = i by omega]
     · rw [if_neg (by omega)]; simp; omega
 · show dr = W.drawn + (dr - W.drawn)
   omega
theorem zhp {P : Program} {f : FuncId} (hc : zbp P f) (args : Array Value) (w : World) : (callFunc f args).run P w = .ok (.enter f args) w := zde hc args w
variable {P : Program} {ρ : Ren} {α : Type} [Inhabited α]
theorem zxv {g : Nat} {enc : α → List Value} {k : Nat} {cf : α → α → Int} {blk off size : Nat} {w : World}
 (hrun : ∀ x y h, Run P g [.agg (enc x).toArray, .agg (enc y).toArray] h fun v h' => v = .int .i64 (cf x y) ∧ Keep h h') : CmpLays P g #[] enc k cf blk off size w := by
 intro m os dk _ x y
 refine ((hrun x y _).2 _ rfl).mono ?_
 rintro e w' ⟨v, rfl, ⟨rfl, hk⟩, hs⟩
 exact ⟨rfl, grow_of hk hs⟩
theorem z1j {enc : α → List Value} {k : Nat} {w : World} {blk : Nat} {d : Array α} {l : Array Value} {E : TypeId} (hb : w.heap[blk]? = some (.cells l E (0, 0))) (hk : ∀ x, (enc x).length = k)
 (hl : ∀ i, i < d.size → ∀ j v, (enc d[i]!)[j]? = some v → l[i * k + j]? = some v) : HoldsK enc k w blk 0 d := by
 intro t ht
 have ht' : t < d.size * k := by simpa using ht
 have hk0 : 0 < k := by
  rcases Nat.eq_zero_or_pos k with h | h
  · subst h; simp at ht'
  · exact h
 have hdiv : t / k < d.size := (Nat.div_lt_iff_lt_mul hk0).2 ht'
 have hmod : t % k < k := Nat.mod_lt _ hk0
 rw [get_flatK enc k d t ht']
 refine ⟨?_, zvv (h := w.heap) hb _⟩
 show hcell w.heap ⟨blk, 0 + t, none⟩ = _
 rw [zaz hb, z2l]
 have := hl (t / k) hdiv (t % k) (enc d[t / k]!)[t % k]! (by rw [getElem!_pos (enc d[t / k]!) (t % k) (by rw [hk]; exact hmod)]; simp [hk, hmod])
 rw [Nat.mul_comm, Nat.div_add_mod] at this
 exact this
theorem sortRun (L : SlLaysF0.n6 P ρ) {f : FuncId} (hf : ρ.f 6 = f) (hc : zbp P f) (k : Nat) (aE : ∀ w, (isAgg (ρ.t 24)).run P w = .ok true w) (zE : ∀ w, (Go.sizeOf (ρ.t 24)).run P w = .ok k w) (enc : α → List Value) (hk : ∀ x, (enc x).length = k) (h1 : ∀ x, ∀ v ∈ enc x, single v = true)
 (cf : α → α → Int) (hO : SWO (ltOf cf)) (g : Nat) (hg : zbp P g) (hrun : ∀ x y h, Run P g [.agg (enc x).toArray, .agg (enc y).toArray] h fun v h' => v = .int .i64 (cf x y) ∧ Keep h h')
 {blk cap : Nat} {d : List α} {h : zac} {l : Array Value} {E : TypeId} (hb : h[blk]? = some (.cells l E (0, 0)))
 (hl : ∀ (i : Nat) (x : α), d[i]? = some x → ∀ j v, (enc x)[j]? = some v → l[i * k + j]? = some v) (hsz : d.length < 4611686018427387904) (hcap : d.length ≤ cap) :
 Run P f [.slice (some ⟨blk, 0, none⟩) d.length cap, .func (.func g) #[] #[]] h fun v h' => v = .tuple #[] ∧ KB [blk] h h' ∧
  ∃ r : List α, r.Perm d ∧ r.Pairwise (fun x y => cf y x < 0 → False) ∧ SlOf enc k h' (some ⟨blk, 0, none⟩) d.length cap r ∧ ∃ l' : Array Value, h'[blk]? = some (.cells l' E (0, 0)) ∧ l'.size = l.size := by
 refine ⟨hc, fun w hw => ?_⟩
 subst hw
 have hH : HoldsK enc k w blk 0 d.toArray := z1j hb hk fun i hi j v hv => by
  have hi' : i < d.length := by simpa using hi
  rw [getElem!_pos d.toArray i hi] at hv
  exact hl i d[i] (by simp [hi']) j v (by simpa using hv)
 have hblk := zbl hb
 have hone : ∀ x, ∀ v ∈ enc x, v.oneCell' = true := fun x v hv => by
  have := h1 x v hv
  cases v <;> simp [single] at this <;> rfl
 have hmain := AnyQ.slices_SortFunc L k aE zE enc hk hone cf hO g #[] blk 0 cap d.toArray w (zhp hg) (zxv hrun) hH hblk (by simpa using hsz)
 rw [hf] at hmain
 simp only [z4h] at hmain
 refine hmain.mono ?_
 rintro e w' ⟨rfl, d', n, os, hp, hs, hw⟩
 obtain ⟨hp1, hp2, hp3⟩ := hp
 simp only [z4h] at hp1 hp2 hp3
 have hswk : SWK enc k w blk 0 d' w' := ⟨n, os, hw⟩
 have hh := hswk.holds hblk hH (by simpa using hp1)
 refine ⟨_, rfl, ⟨rfl, ⟨hswk.le, fun b hb1 hb2 => ?_⟩, d'.toList, ?_, ?_, ?_, putCells id 0 (flatK enc k d') l, ?_, by simp [putCells]⟩, ?_⟩
 · rw [hw]
   show ((putRow id _ blk 0 _).heap ++ os)[b]? = _
   rw [z5m (by rw [size_putRow]; exact hb1)]
   show ((Sort.ahead w n).heap.modify blk _)[b]? = _
   rw [z51, if_neg (by simp at hb2; omega)]
   rfl
 · have e1 : d'.extract 0 d.length = d' := by rw [← hp1]; simp
   have e2 : d.toArray.extract 0 d.length = d.toArray := by simp
   rw [e1, e2] at hp3
   simpa using hp3
 · rw [z5q]
   intro i j hi hj hij
   simp only [Array.length_toList] at hi hj
   have := hs i j (z3j _) hij (by omega)
   rw [getElem!_pos d' j hj, getElem!_pos d' i hi] at this
   intro hlt
   simp only [Array.getElem_toList] at hlt
   unfold ltOf at this
   rw [decide_eq_true hlt] at this
   cases this
 · refine ⟨by simpa using hp1, hcap, fun i x hx => ⟨blk, 0, rfl, fun j v hv => ?_⟩⟩
   have hi : i < d'.size := by
    have := (z2a.1 hx).1
    simpa using this
   have hx' : d'[i]! = x := by
    rw [getElem!_pos d' i hi]
    simpa [hi] using hx
   have hj : j < k := by have := (z2a.1 hv).1; rwa [hk] at this
   have := (HoldsK.cell hh hi hj).1
   rw [hx', getElem!_pos (enc x) j (by rw [hk]; exact hj)] at this
   rw [z2c (by rw [hk]; exact hj)] at hv
   rw [Option.some.inj hv] at this
   exact this
 · rw [hw]
   show ((putRow id _ blk 0 _).heap ++ os)[blk]? = _
   rw [z5m (by rw [size_putRow]; exact hblk)]
   show ((Sort.ahead w n).heap.modify blk _)[blk]? = _
   rw [z51, if_pos rfl]
   show (w.heap[blk]?).map _ = _
   rw [hb]; rfl
 · rw [hw]
   exact ⟨rfl, rfl, rfl, Nat.le_add_right _ _⟩
theorem zqh (L : SlLaysF0.n6 P ρ) {f : FuncId} (hf : ρ.f 6 = f) (hc : zbp P f) {p : Option Addr} {cap : Nat} {fv : Value} {h : zac} : Run P f [.slice p 0 cap, fv] h fun v h' => v = .tuple #[] ∧ h' = h := by
 refine ⟨hc, fun w hw => ?_⟩
 have := AnyF.slices_SortFunc_none L p cap fv w
 rw [hf] at this
 refine this.mono ?_
 rintro e w' ⟨rfl, rfl⟩
 exact ⟨_, rfl, ⟨rfl, hw⟩, .refl _⟩
end
section
set_option maxRecDepth 100000
end
inductive MK where
 | n (x : Int)
 | s (b : ByteArray)
 | a (l : List Int)
deriving DecidableEq
def mkV : MK → Value
 | .n x => .int .i64 x
 | .s b => .string b
 | .a l => .agg (l.map (Value.int .i64)).toArray
inductive KT where
 | n
 | s
 | a (w : Nat)
def isI (P : Program) (T : TypeId) : Bool :=
 match P.underlying T with
 | some (.int .i64) => true
 | _ => false
def zmq (P : Program) : List Field → Nat → Bool
 | [], _ => true
 | f :: l, i => (f.offset == i) && (f.name != "_") && isI P f.type && zmq P l (i + 1)
def znn (P : Program) (K : TypeId) : Option KT :=
 match P.underlying K with
 | some (.int .i64) => some .n
 | some .string => some .s
 | some (.array n e) => cond (isI P e && (match P.info? e with | some i => z14 i.size 1 | none => false)) (some (.a n)) none
 | some (.struct fs) => cond (zmq P fs.toList 0 && !P.stoodInHeld K) (some (.a fs.size)) none
 | _ => none
def KT.has : KT → MK → Bool
 | .n, .n _ => true
 | .s, .s _ => true
 | .a w, .a l => z14 l.length w
 | _, _ => false
theorem ztx {P : Program} {T : TypeId} (h : isI P T = true) : P.underlying T = some (.int .i64) := by
 unfold isI at h
 split at h
 · assumption
 · cases h
theorem mkV_inj : ∀ {a b : MK}, mkV a = mkV b → a = b
 | .n x, .n y, h => by simp [mkV] at h; rw [h]
 | .s x, .s y, h => by simp [mkV] at h; rw [h]
 | .a x, .a y, h => by
   simp only [mkV, Value.agg.injEq] at h
   have h2 := congrArg Array.toList h
   simp only at h2
   have : x = y := by
    have inj : ∀ {x y : List Int}, x.map (Value.int .i64) = y.map (Value.int .i64) → x = y := by
     intro x
     induction x with
     | nil => intro y hh; cases y with | nil => rfl | cons _ _ => simp at hh
     | cons a x ih =>
       intro y hh
       cases y with
       | nil => simp at hh
       | cons b y => simp at hh; rw [hh.1, ih (by simpa using hh.2)]
    exact inj (by simpa using h2)
   rw [this]
 | .n _, .s _, h => by simp [mkV] at h
 | .n _, .a _, h => by simp [mkV] at h
 | .s _, .n _, h => by simp [mkV] at h
 | .s _, .a _, h => by simp [mkV] at h
 | .a _, .n _, h => by simp [mkV] at h
 | .a _, .s _, h => by simp [mkV] at h
section
variable {P : Program} {w : World}
theorem zj3 {T : TypeId} (hT : isI P T = true) (d : Nat) (a b : Int) : (Op.equalIn (d + 1) T (.int .i64 a) (.int .i64 b)).run P w = .ok (a == b) w := run_equalIn_int w d T _ _ _ _ (ztx hT)
theorem zbr {T : TypeId} (hT : isI P T = true) {cs : Array Value} {o : Nat} {v : Value} (hv : cs[o]? = some v) : (part T cs o).run P w = .ok v w :=
 zeg (by rw [ztx hT]) hv w
theorem zel (l : List Int) (i : Nat) : (l.map (Value.int .i64)).toArray[i]? = (l[i]?).map (Value.int .i64) := by simp
theorem ziv {e : TypeId} (hT : isI P e = true) (d : Nat) (a b : List Int) : ∀ (n s : Nat), s + n = a.length → a.length = b.length →
 (Op.eqItems (d + 1) e 1 (a.map (Value.int .i64)).toArray (b.map (Value.int .i64)).toArray (List.range' s n)).run P w = .ok (decide (a.drop s = b.drop s)) w
 | 0, s, h1, h2 => by
   rw [z4n (by omega), z4n (by omega)]
   simp [Op.eqItems]
 | n + 1, s, h1, h2 => by
   have ha : s < a.length := by omega
   have hb : s < b.length := by omega
   have ih := ziv hT d a b n (s + 1) (by omega) h2
   have pa : (part e (a.map (Value.int .i64)).toArray (s * 1)).run P w = .ok (.int .i64 a[s]) w := zbr hT (by rw [z5r, zel, z2c ha]; rfl)
   have pb : (part e (b.map (Value.int .i64)).toArray (s * 1)).run P w = .ok (.int .i64 b[s]) w := zbr hT (by rw [z5r, zel, z2c hb]; rfl)
   simp only [List.range'_succ, Op.eqItems, Sem.run_bind, pa, pb, zj3 hT, z2h]
   rw [z4w ha, z4w hb]
   by_cases hab : a[s] = b[s]
   · simp only [hab, beq_self_eq_true, z3s, z3n, if_false, ih, List.cons.injEq, true_and]
   · have : (a[s] == b[s]) = false := by simpa using hab
     simp only [this, z47, if_true, Sem.run_pure, List.cons.injEq, hab, false_and, decide_false]
theorem zgw (d : Nat) (a b : List Int) : ∀ (fs : List Field) (i : Nat), zmq P fs i = true → i + fs.length = a.length → a.length = b.length →
 (Op.eqFields (d + 1) (a.map (Value.int .i64)).toArray (b.map (Value.int .i64)).toArray fs).run P w = .ok (decide (a.drop i = b.drop i)) w
 | [], i, hf, h1, h2 => by
   simp only [z36] at h1
   rw [z4n (by omega), z4n (by omega)]
   simp [Op.eqFields]
 | f :: fs, i, hf, h1, h2 => by
   simp only [zmq, z17, beq_iff_eq, bne_iff_ne] at hf
   obtain ⟨⟨⟨ho, hn⟩, hT⟩, hr⟩ := hf
   simp only [z2o] at h1
   have ha : i < a.length := by omega
   have hb : i < b.length := by omega
   have ih := zgw d a b fs (i + 1) hr (by omega) h2
   have pa : (part f.type (a.map (Value.int .i64)).toArray i).run P w = .ok (.int .i64 a[i]) w := zbr hT (by rw [zel, z2c ha]; rfl)
   have pb : (part f.type (b.map (Value.int .i64)).toArray i).run P w = .ok (.int .i64 b[i]) w := zbr hT (by rw [zel, z2c hb]; rfl)
   simp only [Op.eqFields, if_pos hn, ho, Sem.run_bind, pa, pb, zj3 hT, z2h]
   rw [z4w ha, z4w hb]
   by_cases hab : a[i] = b[i]
   · simp only [hab, beq_self_eq_true, z3s, z3n, if_false, ih, List.cons.injEq, true_and]
   · have : (a[i] == b[i]) = false := by simpa using hab
     simp only [this, z47, if_true, Sem.run_pure, List.cons.injEq, hab, false_and, decide_false]
theorem zqm {K : TypeId} {n : Nat} (hk : znn P K = some (.a n)) {a b : List Int} (h1 : a.length = n) (h2 : b.length = n) : (Op.equal K (mkV (.a a)) (mkV (.a b))).run P w = .ok (decide (a = b)) w := by
 unfold znn at hk
 unfold Op.equal Op.maxDepth mkV
 split at hk <;> try (cases hk; done)
 · rename_i m e hu
   cases hc : (isI P e && (match P.info? e with | some i => z14 i.size 1 | none => false)) with
   | false => rw [hc] at hk; cases hk
   | true =>
     rw [hc] at hk
     simp only [cond_true, Option.some.injEq, KT.a.injEq] at hk
     subst hk
     simp only [z17] at hc
     obtain ⟨hT, hi⟩ := hc
     cases hinf : P.info? e with
     | none => rw [hinf] at hi; cases hi
     | some i =>
       rw [hinf] at hi
       have hsz : P.cellsOf e = 1 := by simp only [Program.cellsOf, hinf]; exact z18 hi
       rw [show (10000 : Nat) = 9998 + 1 + 1 from rfl, run_equalIn_array w (9998 + 1) _ _ hu hinf, hsz, List.range_eq_range']
       have := ziv (P := P) (w := w) hT 9998 a b m 0 (by omega) (by omega)
       simpa using this
 · rename_i fs hu
   cases hc : (zmq P fs.toList 0 && !P.stoodInHeld K) with
   | false => rw [hc] at hk; cases hk
   | true =>
     rw [hc] at hk
     simp only [cond_true, Option.some.injEq, KT.a.injEq] at hk
     subst hk
     simp only [z17, z2u] at hc
     have hfo : P.fieldsOf K = fs := by simp [Program.fieldsOf, hu]
     rw [show (10000 : Nat) = 9998 + 1 + 1 from rfl, run_equalIn_struct w (9998 + 1) K _ _ (by rw [hfo]; exact hu) hc.2, hfo]
     have := zgw (P := P) (w := w) 9998 a b fs.toList 0 hc.1 (by simpa using h1.symm) (by omega)
     simpa using this
end
def z0o (P : Program) (g : TypeId → Option Nat) : List Field → Nat → Option Nat
 | [], i => some i
 | f :: l, i => cond ((f.offset == i) && (f.name != "_")) (match g f.type with
   | some n => z0o P g l (i + n)
   | none => none) none
def numT (P : Program) : Nat → TypeId → Option Nat
 | 0, _ => none
 | d + 1, T => cond (isI P T) (some 1) (match P.underlying T, P.info? T with
   | some (.struct fs), some i => (match z0o P (numT P d) fs.toList 0 with
     | some n => cond (z14 i.size n && !P.stoodInHeld T) (some n) none
     | none => none)
   | _, _ => none)
def valT (P : Program) (T : TypeId) (l : List Int) : Value := cond (isI P T) (match l with | [x] => .int .i64 x | _ => undef) (.agg (l.map (Value.int .i64)).toArray)
section
variable {P : Program} {w : World}
theorem znf {d : Nat} {T : TypeId} {n : Nat} (h : numT P (d + 1) T = some n) : (isI P T = true ∧ n = 1) ∨ (isI P T = false ∧ ∃ fs i, P.underlying T = some (.struct fs) ∧ P.info? T = some i ∧ z0o P (numT P d) fs.toList 0 = some n ∧ i.size = n ∧ P.stoodInHeld T = false) := by
 unfold numT at h
 cases hi : isI P T with
 | true => rw [hi] at h; cases h; exact .inl ⟨rfl, rfl⟩
 | false =>
   rw [hi] at h
   simp only [cond_false] at h
   split at h
   · rename_i fs i hu hinf
     split at h
     · rename_i k hk
       cases hc : (z14 i.size k && !P.stoodInHeld T) with
       | false => rw [hc] at h; cases h
       | true =>
         rw [hc] at h
         cases h
         simp only [z17, z2u] at hc
         exact .inr ⟨rfl, fs, i, hu, hinf, hk, z18 hc.1, hc.2⟩
     · cases h
   · cases h
theorem zql {d : Nat} {T : TypeId} {n : Nat} (h : numT P d T = some n) {cs : List Int} {o : Nat} (ho : o + n ≤ cs.length) : (part T (cs.map (Value.int .i64)).toArray o).run P w = .ok (valT P T ((cs.drop o).take n)) w := by
 cases d with
 | zero => cases h
 | succ d =>
   rcases znf h with ⟨hi, rfl⟩ | ⟨hi, fs, i, hu, hinf, -, hs, -⟩
   · rw [zbr (v := .int .i64 (cs[o]'(by omega))) hi (by rw [zel, z2c (by omega)]; rfl)]
     unfold valT
     rw [hi, z4w (by omega)]
     rfl
   · unfold valT
     rw [hi]
     simp only [part, isAgg, sizeOf, typeInfo, Sem.run_bind, run_underlying hu, z2h, Sem.run_pure, run_program, hinf, if_true, hs, cond_false]
     congr 2
     apply Array.ext'
     simp [z5b, List.map_drop]
def EqN (P : Program) (d : Nat) : Prop := ∀ (T : TypeId) (n : Nat), numT P d T = some n → ∀ (D : Nat) (a b : List Int) (w : World), a.length = n → b.length = n → (Op.equalIn (D + d) T (valT P T a) (valT P T b)).run P w = .ok (decide (a = b)) w
theorem zgv {d : Nat} (IH : EqN P d) (D : Nat) (a b : List Int) : ∀ (fs : List Field) (i k : Nat), z0o P (numT P d) fs i = some k → k ≤ a.length → k ≤ b.length →
 i ≤ k ∧ (Op.eqFields (D + d) (a.map (Value.int .i64)).toArray (b.map (Value.int .i64)).toArray fs).run P w = .ok (decide ((a.take k).drop i = (b.take k).drop i)) w
 | [], i, k, hf, h1, h2 => by
   cases hf
   refine ⟨z2r _, ?_⟩
   rw [z4n (by simp; omega), z4n (by simp; omega)]
   simp [Op.eqFields]
 | f :: fs, i, k, hf, h1, h2 => by
   simp only [z0o] at hf
   cases hc : ((f.offset == i) && (f.name != "_")) with
   | false => rw [hc] at hf; cases hf
   | true =>
     rw [hc] at hf
     simp only [cond_true] at hf
     simp only [z17, beq_iff_eq, bne_iff_ne] at hc
     obtain ⟨ho, hn⟩ := hc
     split at hf
     · rename_i n hT
       obtain ⟨hik, ih⟩ := zgv IH D a b fs (i + n) k hf h1 h2
       have pa := zql (P := P) (w := w) hT (cs := a) (o := i) (by omega)
       have pb := zql (P := P) (w := w) hT (cs := b) (o := i) (by omega)
       have la : ((a.drop i).take n).length = n := by simp; omega
       have lb : ((b.drop i).take n).length = n := by simp; omega
       have he := IH f.type n hT D _ _ w la lb
       refine ⟨by omega, ?_⟩
       simp only [Op.eqFields, if_pos hn, ho, Sem.run_bind, pa, pb, he, z2h]
       have sp : ∀ l : List Int, k ≤ l.length → (l.take k).drop i = (l.drop i).take n ++ (l.take k).drop (i + n) := fun l hl => by
        rw [← z4x]
        conv => lhs; rw [← z4c n ((l.take k).drop i)]
        congr 1
        rw [List.drop_take, List.take_take, z5c (by omega)]
       rw [sp a h1, sp b h2]
       by_cases hab : (a.drop i).take n = (b.drop i).take n
       · simp only [hab, decide_true, z3s, z3n, if_false, ih, List.append_cancel_left_eq]
       · have : ¬ ((a.drop i).take n ++ (a.take k).drop (i + n) = (b.drop i).take n ++ (b.take k).drop (i + n)) := fun e => hab (List.append_inj_left e (by rw [la, lb]))
         simp only [hab, decide_false, z47, if_true, Sem.run_pure, this]
     · cases hf
theorem eqN : ∀ d, EqN P d
 | 0 => fun T n h => by cases h
 | d + 1 => fun T n h D a b w h1 h2 => by
   rcases znf h with ⟨hi, rfl⟩ | ⟨hi, fs, i, hu, hinf, hfs, hs, hst⟩
   · match a, b, h1, h2 with
     | [x], [y], _, _ =>
       unfold valT
       rw [hi]
       have := zj3 (P := P) (w := w) hi (D + d) x y
       simp only [cond_true]
       rw [show D + (d + 1) = D + d + 1 from rfl, this]
       congr 1
       by_cases e : x = y
       · subst e; simp
       · simp [e]
   · have hfo : P.fieldsOf T = fs := by simp [Program.fieldsOf, hu]
     unfold valT
     rw [hi]
     simp only [cond_false]
     rw [show D + (d + 1) = D + d + 1 from rfl, run_equalIn_struct w (D + d) T _ _ (by rw [hfo]; exact hu) hst, hfo]
     obtain ⟨-, this⟩ := zgv (P := P) (w := w) (eqN d) D a b fs.toList 0 n hfs (by omega) (by omega)
     rw [this, z38, z38, z5d (by omega), z5d (by omega)]
theorem zzi {T : TypeId} {n : Nat} (hk : numT P 6 T = some n) (hI : isI P T = false) {a b : List Int} (h1 : a.length = n) (h2 : b.length = n) : (Op.equal T (mkV (.a a)) (mkV (.a b))).run P w = .ok (decide (a = b)) w := by
 have := eqN 6 T n hk 9994 a b w h1 h2
 unfold valT at this
 rw [hI] at this
 exact this
end
section
open Go.MapKept
abbrev MV := List (MK × Value)
def zrf : MV → MK → Nat → Option (Nat × Value)
 | [], _, _ => none
 | p :: m, k, i => if p.1 = k then some (i, p.2) else zrf m k (i + 1)
def zrh (es : List MapEntry) (m : MV) : Prop := es.map (fun e => (e.key, e.val)) = m.map fun p => (mkV p.1, p.2)
theorem zow {m : MV} (h : zrh [] m) : m = [] := by unfold zrh at h; cases m <;> simp at h ⊢
theorem zrg {e : MapEntry} {es : List MapEntry} {m : MV} (h : zrh (e :: es) m) : ∃ p l, m = p :: l ∧ e.key = mkV p.1 ∧ e.val = p.2 ∧ zrh es l := by
 cases m with
 | nil => simp [zrh] at h
 | cons p l =>
   simp only [zrh, z2s, List.cons.injEq, Prod.mk.injEq] at h
   exact ⟨p, l, rfl, h.1.1, h.1.2, h.2⟩
theorem zjk {es : List MapEntry} {m : MV} (h : zrh es m) : es.length = m.length := by have := congrArg z15 h; simpa using this
theorem zvp {es : List MapEntry} {m : MV} (h : zrh es m) {i : Nat} {e : MapEntry} (hi : es[i]? = some e) : ∃ p, m[i]? = some p ∧ e.key = mkV p.1 ∧ e.val = p.2 := by
 have h2 := congrArg (fun l => l[i]?) h
 simp only [z2i, hi, z3h] at h2
 cases hm : m[i]? with
 | none => rw [hm] at h2; simp at h2
 | some p =>
   rw [hm] at h2
   simp only [z3h, Option.some.injEq, Prod.mk.injEq] at h2
   exact ⟨p, rfl, h2.1, h2.2⟩
section
variable {P : Program} {w : World} {K : TypeId} {kt : KT}
theorem kt_n {k : MK} (h : KT.n.has k = true) : ∃ x, k = .n x := by cases k <;> simp [KT.has] at h; exact ⟨_, rfl⟩
theorem kt_s {k : MK} (h : KT.s.has k = true) : ∃ x, k = .s x := by cases k <;> simp [KT.has] at h; exact ⟨_, rfl⟩
theorem kt_a {n : Nat} {k : MK} (h : (KT.a n).has k = true) : ∃ l, k = .a l ∧ l.length = n := by
 cases k with
 | a l => exact ⟨l, rfl, z18 h⟩
 | n x => simp [KT.has] at h
 | s x => simp [KT.has] at h
theorem ktOf_n (h : znn P K = some .n) : P.underlying K = some (.int .i64) := by
 unfold znn at h
 split at h
 · assumption
 · cases h
 · generalize (isI P _ && _) = c at h; cases c <;> simp at h
 · generalize (zmq P _ 0 && _) = c at h; cases c <;> simp at h
 · cases h
theorem ktOf_s (h : znn P K = some .s) : P.underlying K = some .string := by
 unfold znn at h
 split at h
 · cases h
 · assumption
 · generalize (isI P _ && _) = c at h; cases c <;> simp at h
 · generalize (zmq P _ 0 && _) = c at h; cases c <;> simp at h
 · cases h
theorem ktOf_a {n : Nat} (h : znn P K = some (.a n)) : (∃ e i, P.underlying K = some (.array n e) ∧ isI P e = true ∧ P.info? e = some i ∧ i.size = 1) ∨ ∃ fs, P.underlying K = some (.struct fs) ∧ zmq P fs.toList 0 = true ∧ fs.size = n := by
 unfold znn at h
 split at h
 · cases h
 · cases h
 · rename_i m e hu
   left
   generalize hc : (isI P e && _) = c at h
   cases c with
   | false => cases h
   | true =>
     simp only [cond_true, Option.some.injEq, KT.a.injEq] at h
     subst h
     simp only [z17] at hc
     obtain ⟨hT, hi⟩ := hc
     cases hinf : P.info? e with
     | none => rw [hinf] at hi; cases hi
     | some i => rw [hinf] at hi; exact ⟨e, i, hu, hT, hinf, z18 hi⟩
 · rename_i fs hu
   right
   cases hc : (zmq P fs.toList 0 && !P.stoodInHeld K) with
   | false => rw [hc] at h; cases h
   | true =>
     rw [hc] at h
     simp only [cond_true, Option.some.injEq, KT.a.injEq] at h
     simp only [z17] at hc
     exact ⟨fs, hu, hc.1, h⟩
 · cases h
theorem zix {T : TypeId} (hT : isI P T = true) (em : Bool) (d : Nat) (x : Int) : (Instr.checkKey em (d + 1) T (.int .i64 x)).run P w = .ok () w :=
 run_checkKey (ztx hT) (show IsKey (.int .i64) (.int .i64 x) from rfl) em d
theorem zb6 (hk : znn P K = some kt) {k : MK} (hx : kt.has k = true) (em : Bool) : (Instr.checkKey em 10000 K (mkV k)).run P w = .ok () w := by
 cases kt with
 | n => obtain ⟨x, rfl⟩ := kt_n hx; exact run_checkKey (ktOf_n hk) (show IsKey (.int .i64) (.int .i64 x) from rfl) em 9999
 | s => obtain ⟨x, rfl⟩ := kt_s hx; exact run_checkKey (ktOf_s hk) (show IsKey .string (.string x) from trivial) em 9999
 | a n =>
   obtain ⟨l, rfl, hl⟩ := kt_a hx
   rcases ktOf_a hk with ⟨e, i, hu, hT, hi, hs⟩ | ⟨fs, hu, hf, hs⟩
   · rw [show (10000 : Nat) = 9998 + 1 + 1 from rfl, Instr.checkKey]
     simp only [Sem.run_bind, run_underlying hu, z2h, mkV]
     simp only [Std.Legacy.Range.forIn_eq_forIn_range', Std.Legacy.Range.size, Nat.sub_zero, Nat.add_one_sub_one, Nat.div_one]
     have hsz : P.cellsOf e = 1 := by simp only [Program.cellsOf, hi]; exact hs
     have hj : ∀ j ∈ List.range' 0 n, j < l.length := fun j hj => by simp at hj; omega
     generalize List.range' 0 n = is at hj
     induction is with
     | nil => simp
     | cons j is ih =>
       have hlt := hj j (by simp)
       have pa : (part e (l.map (Value.int .i64)).toArray (j * 1)).run P w = .ok (.int .i64 l[j]) w := zbr hT (by rw [z5r, zel, z2c hlt]; rfl)
       simp only [List.forIn_cons, Sem.run_bind, run_sizeOf w hi, hsz, z2h, pa, zix hT, Sem.run_pure]
       exact ih fun y hy => hj y (by simp [hy])
   · rw [show (10000 : Nat) = 9998 + 1 + 1 from rfl, Instr.checkKey]
     simp only [Sem.run_bind, run_underlying hu, z2h, mkV]
     rw [← Array.forIn_toList]
     have hll : 0 + fs.toList.length = l.length := by simp [hs, hl]
     clear hu hs hl
     generalize fs.toList = L at hf hll
     generalize 0 = i at hf hll
     induction L generalizing i with
     | nil => simp
     | cons f L ih =>
       simp only [zmq, z17, beq_iff_eq, bne_iff_ne] at hf
       obtain ⟨⟨⟨ho, hn⟩, hT⟩, hr⟩ := hf
       simp only [z2o] at hll
       have hlt : i < l.length := by omega
       have pa : (part f.type (l.map (Value.int .i64)).toArray i).run P w = .ok (.int .i64 l[i]) w := zbr hT (by rw [zel, z2c hlt]; rfl)
       simp only [List.forIn_cons, Sem.run_bind, hn, ne_eq, not_false_eq_true, if_true, ho, z2h, pa, zix hT, Sem.run_pure]
       exact ih (i + 1) hr (by omega)
theorem zu0 {n : Nat} (hk : znn P K = some (.a n)) {k : MK} (hx : (KT.a n).has k = true) : ∀ (es : List MapEntry) (m : MV) (i : Nat), zrh es m → (∀ p ∈ m, (KT.a n).has p.1 = true) → (Instr.findAsking K (mkV k) es i).run P w = .ok (zrf m k i) w
 | [], m, i, he, _ => by rw [zow he]; rfl
 | e :: es, m, i, he, hh => by
   obtain ⟨p, l, rfl, h1, h2, h3⟩ := zrg he
   obtain ⟨a, rfl, ha⟩ := kt_a hx
   obtain ⟨b, hb, hbl⟩ := kt_a (hh p (by simp))
   have ih := zu0 hk hx es l (i + 1) h3 fun q hq => hh q (by simp [hq])
   obtain ⟨pk, pv⟩ := p
   simp only at hb h1 h2
   subst hb
   simp only [Instr.findAsking, h1, h2, Sem.run_bind, zqm hk ha hbl, z2h, zrf]
   by_cases hab : a = b
   · subst hab; simp
   · have h4 : MK.a b ≠ MK.a a := fun e => hab (by injection e with e; exact e.symm)
     simp only [hab, decide_false, z3n, if_false, h4, ih]
theorem zou {d : TypeDesc} (hd : ∀ k k' : MK, kt.has k = true → kt.has k' = true → Instr.sameNow d (mkV k) (mkV k') = some (decide (k' = k))) {k : MK} (hx : kt.has k = true) : ∀ (es : List MapEntry) (m : MV) (i : Nat), zrh es m → (∀ p ∈ m, kt.has p.1 = true) → Instr.findNow d (mkV k) es i = some (zrf m k i)
 | [], m, i, he, _ => by rw [zow he]; rfl
 | e :: es, m, i, he, hh => by
   obtain ⟨p, l, rfl, h1, h2, h3⟩ := zrg he
   have ih := zou hd hx es l (i + 1) h3 fun q hq => hh q (by simp [hq])
   unfold Instr.findNow
   rw [h1, hd k p.1 hx (hh p (by simp))]
   simp only [zrf]
   by_cases hpk : p.1 = k
   · simp [hpk, h2]
   · simp [hpk, ih]
theorem zds (hk : znn P K = some kt) {k : MK} (hx : kt.has k = true) {es : List MapEntry} {m : MV} (he : zrh es m) (hh : ∀ p ∈ m, kt.has p.1 = true) : (Instr.findKey K (mkV k) es).run P w = .ok (zrf m k 0) w := by
 cases kt with
 | n =>
   have hu := ktOf_n hk
   refine run_findKey hu (zou (fun a b ha hb => ?_) hx es m 0 he hh)
   obtain ⟨x, rfl⟩ := kt_n ha
   obtain ⟨y, rfl⟩ := kt_n hb
   simp only [mkV, Instr.sameNow, if_true, MK.n.injEq]
   congr 1
   by_cases hxy : x = y
   · simp [hxy]
   · simp [hxy, Ne.symm hxy]
 | s =>
   have hu := ktOf_s hk
   refine run_findKey hu (zou (fun a b ha hb => ?_) hx es m 0 he hh)
   obtain ⟨x, rfl⟩ := kt_s ha
   obtain ⟨y, rfl⟩ := kt_s hb
   simp only [mkV, Instr.sameNow, MK.s.injEq]
   congr 1
   by_cases hxy : x = y
   · rw [(bytes_beq x y).2 hxy]; simp [hxy]
   · have : (x == y) = false := by
      cases hc : (x == y) with
      | false => rfl
      | true => exact absurd ((bytes_beq x y).1 hc) hxy
     simp [this, Ne.symm hxy]
 | a n =>
   have hu : ∃ d, P.underlying K = some d ∧ ∀ e (es : List MapEntry), Instr.findNow d (mkV k) (e :: es) 0 = none := by
    obtain ⟨l, rfl, -⟩ := kt_a hx
    rcases ktOf_a hk with ⟨e, i, hu, -⟩ | ⟨fs, hu, -⟩
    · exact ⟨_, hu, fun e es => rfl⟩
    · exact ⟨_, hu, fun e es => rfl⟩
   obtain ⟨d, hu, hf⟩ := hu
   cases es with
   | nil => rw [zow he]; exact run_findKey hu rfl
   | cons e es =>
     have := zu0 (P := P) (w := w) hk hx (e :: es) m 0 he hh
     simp [Instr.findKey, run_underlying hu, Result.andThen, hf, this]
theorem zwx (k : MK) : Instr.sameBits 10000 (mkV k) (mkV k) = true := by
 cases k with
 | n x => simp [mkV, Instr.sameBits]
 | s x => simp only [mkV, Instr.sameBits]; exact (bytes_beq x x).2 rfl
 | a l =>
   rw [show (10000 : Nat) = 9999 + 1 from rfl]
   simp only [mkV, Instr.sameBits, beq_self_eq_true, z4l]
   induction l with
   | nil => rfl
   | cons x l ih =>
     simp only [z2s, List.zip_cons_cons, List.all_cons, z17] at ih ⊢
     exact ⟨by simp [Instr.sameBits], ih⟩
theorem zzd (k : MK) : (Instr.keyThatStays (mkV k) (mkV k)).run P w = .ok (mkV k) w := by
 unfold Instr.keyThatStays
 rw [if_pos (zwx k)]
 rfl
end
end
inductive Ds where
 | nil
 | i (k : IntKind) (r : Ds)
 | b (r : Ds)
 | s (r : Ds)
 | l (z : Nat) (e r : Ds)
def zi3 (P : Program) : List Field → Nat → Nat → Bool
 | [], o, n => o == n
 | f :: fs, o, n => f.offset == o && zi3 P fs (o + P.cellsOf f.type) n
def z10 (g : TypeId → Ds → Option Ds) : List TypeId → Ds → Option Ds
 | [], r => some r
 | t :: ts, r => (z10 g ts r).bind (g t)
def dsOf (P : Program) : Nat → TypeId → Ds → Option Ds
 | 0, _, _ => none
 | n + 1, t, r =>
   match P.underlying t with
   | some .bool => some (.b r)
   | some (.int k) => some (.i k r)
   | some .string => some (.s r)
   | some (.slice e) => if P.cellsOf e = 0 then none else (dsOf P n e .nil).map fun d => .l (P.cellsOf e) d r
   | some (.struct fs) => if zi3 P fs.toList 0 (P.cellsOf t) then z10 (dsOf P n) (fs.toList.map (·.type)) r else none
   | some (.array m e) => if P.cellsOf t = m * P.cellsOf e then z10 (dsOf P n) (z2g m e) r else none
   | _ => none
def ShU : Ds → List U → Prop
 | .nil, us => us = []
 | .i k r, us => ∃ n us', us = .i k n :: us' ∧ (Lit.int k n).wf = true ∧ ShU r us'
 | .b r, us => ∃ c us', us = .b c :: us' ∧ ShU r us'
 | .s r, us => ∃ x us', us = .s x :: us' ∧ x.size ≤ maxLen ∧ ShU r us'
 | .l z e r, us => ∃ rows us', us = .l z rows :: us' ∧ rows.length ≤ maxLen ∧ (∀ row ∈ rows, ShU e row) ∧ ShU r us'
theorem RdL.append {D : Fz} {vs ws : List Value} {us xs : List U} (h : RdL D vs us) (k : RdL D ws xs) : RdL D (vs ++ ws) (us ++ xs) := by
 induction h with
 | nil => exact k
 | cons a _ ih => exact .cons a ih
theorem zjj {α β : Type} {f : α → Option β} : ∀ {l : List α} {r : List β}, l.mapM f = some r → r.length = l.length ∧ ∀ (i : Nat) (x : α), l[i]? = some x → ∃ y, f x = some y ∧ r[i]? = some y
 | [], r, h => by simp at h; subst h; exact ⟨rfl, by simp⟩
 | x :: l, r, h => by
   rw [z48] at h
   cases hx : f x with
   | none => rw [hx] at h; cases h
   | some y =>
     rw [hx] at h
     cases hl : l.mapM f with
     | none => rw [hl] at h; cases h
     | some ys =>
       rw [hl] at h
       cases h
       obtain ⟨h1, h2⟩ := zjj hl
       refine ⟨by simp [h1], fun i z hz => ?_⟩
       cases i with
       | zero => simp at hz; subst hz; exact ⟨y, hx, rfl⟩
       | succ i => simpa using h2 i z (by simpa using hz)
section
variable {H : Type} {enc : TypeId × Value → H} {P : Program} {w : World} {sp : Nat → Bool} {held : Bool}
def zp0 (h : zac) : Fz := fun b => h[b]?
theorem all_rd {R : List Value → List U → Prop} (hR : ∀ {a b us xs}, R a us → R b xs → R (a ++ b) (us ++ xs)) (hR0 : R [] []) {g : TypeId → Ds → Option Ds} {r : TypeId → List Value → Option (DataW H × List MemPlace)}
 (ih : ∀ t cs x d rest, g t rest = some d → r t cs = some x → ∃ us, R cs us ∧ us.length = cs.length ∧ ∀ us', ShU rest us' → ShU d (us ++ us')) :
 ∀ (ts : List TypeId) (css : List (List Value)) (d rest : Ds), z10 g ts rest = some d → css.length = ts.length → (∀ (i : Nat) (t : TypeId) (cs : List Value), ts[i]? = some t → css[i]? = some cs → ∃ x, r t cs = some x) →
   ∃ us, R css.flatten us ∧ us.length = css.flatten.length ∧ ∀ us', ShU rest us' → ShU d (us ++ us')
 | [], css, d, rest, hd, hl, _ => by
   have : css = [] := z3w hl
   subst this
   cases hd
   exact ⟨[], hR0, rfl, fun us' h => h⟩
 | t :: ts, css, d, rest, hd, hl, hx => by
   cases css with
   | nil => simp at hl
   | cons cs css =>
     simp only [z10, Option.bind_eq_some_iff] at hd
     obtain ⟨d1, hd1, hd2⟩ := hd
     obtain ⟨us, h1, h2, h3⟩ := all_rd hR hR0 ih ts css d1 rest hd1 (by simpa using hl) fun i t' cs' a b => hx (i + 1) t' cs' (by simpa using a) (by simpa using b)
     obtain ⟨x, hxx⟩ := hx 0 t cs rfl rfl
     obtain ⟨vs, g1, g2, g3⟩ := ih t cs x d d1 hd2 hxx
     exact ⟨vs ++ us, by simpa using hR g1 h1, by simp [g2, h2], fun us' hu => by rw [z2m]; exact g3 _ (h3 _ hu)⟩
theorem zlx {a : Addr} {n : Nat} {cs : List Value} (h : w.cells? 0 a n = some cs) : cs.length = n ∧ ∀ j, j < n → w.cell? (a.add j) = cs[j]? := by
 unfold World.cells? at h
 rw [if_pos (z3j _)] at h
 obtain ⟨h1, h2⟩ := zjj h
 refine ⟨by simpa using h1, fun j hj => ?_⟩
 obtain ⟨y, e1, e2⟩ := h2 j j (by simp [hj])
 rw [e1, e2]
theorem drops {P : Program} {cs : List Value} : ∀ (fs : List Field) (o : Nat), zi3 P fs o cs.length = true → o ≤ cs.length → (fs.map fun f => (cs.drop f.offset).take (P.cellsOf f.type)).flatten = cs.drop o
 | [], o, h, _ => by simp only [zi3, beq_iff_eq] at h; subst h; simp
 | f :: fs, o, h, ho => by
   simp only [zi3, z17, beq_iff_eq] at h
   obtain ⟨rfl, h2⟩ := h
   have hle : f.offset + P.cellsOf f.type ≤ cs.length := by
    have : ∀ (fs : List Field) (o : Nat), zi3 P fs o cs.length = true → o ≤ cs.length := by
     intro fs
     induction fs with
     | nil => intro o h; simp only [zi3, beq_iff_eq] at h; omega
     | cons f fs ih => intro o h; simp only [zi3, z17, beq_iff_eq] at h; have := ih _ h.2; omega
    exact this _ _ h2
   rw [z2s, z2n, drops fs _ h2 hle, ← z4x, z4c]
theorem zry {cs : List Value} {k : Nat} : ∀ (m o : Nat), cs.length = (o + m) * k → ((z2b m).map fun i => (cs.drop ((o + i) * k)).take k).flatten = cs.drop (o * k)
 | 0, o, h => by simp [h]
 | m + 1, o, h => by
   rw [z6j, z2s, z2n, z3c]
   have h1 := zry (cs := cs) (k := k) m (o + 1) (by rw [h]; congr 1; omega)
   have : ((z2b m).map ((fun i => (cs.drop ((o + i) * k)).take k) ∘ Nat.succ)) = (z2b m).map fun i => (cs.drop ((o + 1 + i) * k)).take k := z5p fun i _ => by simp only [Function.comp, Nat.succ_eq_add_one]; rw [show o + (i + 1) = o + 1 + i by omega]
   rw [this, h1, z4b, show (o + 1) * k = o * k + k by rw [z24], ← z4x, z4c]
set_option maxRecDepth 10000 in
theorem zsy : ∀ (m n : Nat) (t : TypeId) (cs : List Value) (x : DataW H × List MemPlace) (d rest : Ds), dsOf P m t rest = some d → DataW.trod enc P w 0 sp held n t cs = some x →
 ∃ us, RdL (zp0 w.heap) cs us ∧ us.length = cs.length ∧ ∀ us', ShU rest us' → ShU d (us ++ us')
 | 0, n, t, cs, x, d, rest, hd, hx => by cases hd
 | m + 1, 0, t, cs, x, d, rest, hd, hx => by cases hx
 | m + 1, n + 1, t, cs, x, d, rest, hd, hx => by
   have ih := zsy m n
   rw [DataW.trod_step] at hx
   unfold dsOf at hd
   cases hu : P.underlying t with
   | none => rw [hu] at hd; cases hd
   | some td =>
     rw [hu] at hd
     cases td with
     | bool =>
       cases hd
       unfold DataW.trodStep at hx
       rw [hu] at hx
       split at hx <;> simp_all
       exact ⟨[.b _], .cons (.bool _) .nil, rfl, fun us' h => ⟨_, us', rfl, h⟩⟩
     | int k =>
       cases hd
       unfold DataW.trodStep at hx
       rw [hu] at hx
       split at hx <;> simp_all
       rename_i k' nn e1
       obtain ⟨⟨rfl, hw⟩, -⟩ := hx
       exact ⟨[.i k' nn], .cons (.int _ _) .nil, rfl, fun us' h => ⟨nn, us', rfl, hw, h⟩⟩
     | string =>
       cases hd
       unfold DataW.trodStep at hx
       rw [hu] at hx
       split at hx <;> simp_all
       exact ⟨[.s _], .cons (.str _) .nil, rfl, fun us' h => ⟨_, us', rfl, hx.1, h⟩⟩
     | slice e =>
       simp only at hd
       split at hd
       · cases hd
       rename_i hce
       simp only [z3k] at hd
       obtain ⟨de, hde, rfl⟩ := hd
       rw [← DataW.trod_step] at hx
       rcases Go.Deep.open_slice hu hx with ⟨rfl, -⟩ | ⟨a, len, cap, mm, n', DD, Pl, rfl, hb, hl, hm, hmm, -, hel⟩
       · exact ⟨[.l (P.cellsOf e) []], .cons (.nil _ _ _) .nil, rfl, fun us' h => ⟨[], us', rfl, by simp, by simp, h⟩⟩
       have hlm : len ≤ mm := by rw [hmm]; split <;> omega
       by_cases h0 : len = 0
       · subst h0
         exact ⟨[.l (P.cellsOf e) []], .cons (.nil _ _ _) .nil, rfl, fun us' h => ⟨[], us', rfl, by simp, by simp, h⟩⟩
       have each : ∀ i, ∃ q : List Value × List U, i < len → w.cells? 0 (a.add (i * P.cellsOf e)) (P.cellsOf e) = some q.1 ∧ RdL (zp0 w.heap) q.1 q.2 ∧ q.2.length = q.1.length ∧ ShU de q.2 := by
        intro i
        by_cases hi : i < len
        · obtain ⟨cs', h1, h2⟩ := hel i (by omega)
          obtain ⟨us, g1, g2, g3⟩ := zsy m n' e cs' _ de .nil hde h2
          exact ⟨(cs', us), fun _ => ⟨h1, g1, g2, by simpa using g3 [] rfl⟩⟩
        · exact ⟨([], []), fun h => absurd h hi⟩
       have each' : ∀ i, ∃ q : List Value × List U, i < len → w.cells? 0 (a.add (i * P.cellsOf e)) (P.cellsOf e) = some q.1 ∧ RdL (zp0 w.heap) q.1 q.2 ∧ q.2.length = q.1.length ∧ ShU de q.2 := each
       let Q : Nat → List Value × List U := fun i => Classical.choose (each' i)
       have hQ : ∀ i, i < len → w.cells? 0 (a.add (i * P.cellsOf e)) (P.cellsOf e) = some (Q i).1 ∧ RdL (zp0 w.heap) (Q i).1 (Q i).2 ∧ (Q i).2.length = (Q i).1.length ∧ ShU de (Q i).2 := fun i => Classical.choose_spec (each' i)
       obtain ⟨b, o, spot⟩ := a
       have hc0 : ∀ i j, i < len → j < P.cellsOf e → w.cell? (((⟨b, o, spot⟩ : Addr).add (i * P.cellsOf e)).add j) = (Q i).1[j]? ∧ j < (Q i).1.length := fun i j hi hj => by
        obtain ⟨h1, h2⟩ := zlx (hQ i hi).1
        exact ⟨h2 j hj, by omega⟩
       have hsp : spot = none := by
        cases spot with
        | none => rfl
        | some z =>
          exfalso
          obtain ⟨h1, h2⟩ := hc0 0 0 (by omega) (by omega)
          rw [z2c h2] at h1
          have : w.cell? ⟨b, o, some z⟩ = some ((Q 0).1[0]) := by simpa [Addr.add] using h1
          unfold World.cell? at this
          split at this
          · simp at this
          · cases this
       subst hsp
       have hcell : ∀ i j, i < len → j < P.cellsOf e → hcell w.heap ⟨b, o + i * P.cellsOf e + j, none⟩ = (Q i).1[j]? := fun i j hi hj => by
        have h1 := (hc0 i j hi hj).1
        rw [za1, za1] at h1
        exact h1
       have hblk : ∃ arr T f, w.heap[b]? = some (.cells arr T f) := by
        have h1 := hcell 0 0 (by omega) (by omega)
        rw [z2c (hc0 0 0 (by omega) (by omega)).2] at h1
        unfold YtalglagdgabafaaGreat.hcell at h1
        cases hbb : w.heap[b]? with
        | none => simp [hbb] at h1
        | some ob =>
          cases ob <;> simp [hbb] at h1
          exact ⟨_, _, _, rfl⟩
       obtain ⟨arr, T, f, hbk⟩ := hblk
       have hlen : ((z2b len).map fun i => (Q i).2).length = len := by simp
       have hrow : ∀ {i : Nat} {r : List U}, ((z2b len).map fun i => (Q i).2)[i]? = some r → i < len ∧ r = (Q i).2 := fun {i r} hr => by
        rw [z2i] at hr
        cases hri : (z2b len)[i]? with
        | none => rw [hri] at hr; cases hr
        | some k =>
          rw [hri] at hr
          obtain ⟨h1, h2⟩ := z2a.1 hri
          simp at h1 h2 hr
          subst h2
          exact ⟨h1, hr.symm⟩
       have hr : Rd (zp0 w.heap) (.slice (some ⟨b, o, none⟩) len cap) (.l (P.cellsOf e) ((z2b len).map fun i => (Q i).2)) := by
        have := Rd.row (D := zp0 w.heap) b o cap arr T f ((z2b len).map fun i => (Q i).2) (P.cellsOf e) (fun i j => (Q i).1.getD j undef) hbk (by rw [hlen]; exact hl)
         (fun r hr => by
          obtain ⟨i, hi, rfl⟩ := z20.1 hr
          have hi' : i < len := by simpa using hi
          rw [(hQ i hi').2.2.1, (zlx (hQ i hi').1).1])
         (fun i j r u hi hj => by
          obtain ⟨h1, rfl⟩ := hrow hi
          have hj' : j < P.cellsOf e := by
           have := (z2a.1 hj).1
           rwa [(hQ i h1).2.2.1, (zlx (hQ i h1).1).1] at this
          have := hcell i j h1 hj'
          rw [zaz hbk] at this
          rw [this]
          simp [(hc0 i j h1 hj').2])
         (fun i j r u hi hj => by
          obtain ⟨h1, rfl⟩ := hrow hi
          obtain ⟨v, hv, hrd⟩ := (hQ i h1).2.1.get hj
          simp only [z4g, hv, z3b]; exact hrd)
        rwa [hlen] at this
       refine ⟨[.l (P.cellsOf e) _], .cons hr .nil, rfl, fun us' h => ⟨_, us', rfl, by rw [hlen]; omega, fun row hrow' => ?_, h⟩⟩
       obtain ⟨i, hi, rfl⟩ := z20.1 hrow'
       exact (hQ i (by simpa using hi)).2.2.2
     | struct fs =>
       simp only at hd
       split at hd
       · rename_i hct
         unfold DataW.trodStep at hx
         rw [hu] at hx
         simp only at hx
         split at hx
         · rename_i hl
           simp only [z3k] at hx
           obtain ⟨xs, hxs, -⟩ := hx
           obtain ⟨h1, h2⟩ := zjj hxs
           rw [← hl] at hct
           have hfl := drops fs.toList 0 hct (z3j _)
           rw [z38] at hfl
           have := all_rd (R := RdL (zp0 w.heap)) (fun a b => a.append b) .nil (g := dsOf P m) (r := DataW.trod enc P w 0 sp held n) (fun t cs x d rest a b => ih t cs x d rest a b) (fs.toList.map (·.type)) (fs.toList.map fun f => (cs.drop f.offset).take (P.cellsOf f.type)) d rest hd (by simp) fun i t' cs' a b => by
            rw [z2i] at a b
            cases hf : fs.toList[i]? with
            | none => rw [hf] at a; cases a
            | some f =>
              rw [hf] at a b
              cases a; cases b
              obtain ⟨y, hy, -⟩ := h2 i f hf
              exact ⟨y, hy⟩
           rw [hfl] at this
           exact this
         · cases hx
       · cases hd
     | array k e =>
       simp only at hd
       split at hd
       · rename_i hct
         unfold DataW.trodStep at hx
         rw [hu] at hx
         simp only at hx
         split at hx
         · rename_i hl
           simp only [z3k] at hx
           obtain ⟨xs, hxs, -⟩ := hx
           obtain ⟨h1, h2⟩ := zjj hxs
           rw [hct] at hl
           have hfl := zry (cs := cs) (k := P.cellsOf e) k 0 (by rw [hl, z2l])
           rw [z4v, z38] at hfl
           simp only [z2l] at hfl
           have := all_rd (R := RdL (zp0 w.heap)) (fun a b => a.append b) .nil (g := dsOf P m) (r := DataW.trod enc P w 0 sp held n) (fun t cs x d rest a b => ih t cs x d rest a b) (z2g k e) ((z2b k).map fun i => (cs.drop (i * P.cellsOf e)).take (P.cellsOf e)) d rest hd (by simp) fun i t' cs' a b => by
            rw [z2i] at b
            obtain ⟨a1, a2⟩ := z2a.1 a
            simp at a1 a2
            subst a2
            rw [z5s a1] at b
            cases b
            obtain ⟨y, hy, -⟩ := h2 i i (by simp [a1])
            exact ⟨y, hy⟩
           rw [hfl] at this
           exact this
         · cases hx
       · cases hd
     | _ => cases hd
end
section
variable {H : Type} {enc : TypeId × Value → H} {P : Program} {W : World} {sp : Nat → Bool} {held : Bool}
theorem zqz {t : TypeId} {ds : Ds} {v : Value} {d : DataW H} {ps : List MemPlace} (hd : dsOf P 12 t .nil = some ds) (h : DataW.Trod enc P W 0 sp held t v d ps) : ∃ us, RdL (zp0 W.heap) v.cells.toList us ∧ ShU ds us := by
 obtain ⟨fuel, hf⟩ := h
 obtain ⟨us, h1, -, h3⟩ := zsy 12 fuel t _ _ ds .nil hd hf
 exact ⟨us, h1, by simpa using h3 [] rfl⟩
end
theorem St.all (h : zac) : St (zp0 h) [] h := ⟨by simp [ids], by simp, fun b o hb => ⟨hb, by simp [ids]⟩⟩
theorem St.kept {h h' : zac} {C : List zab} {D : Fz} (l : Le (zp0 h) D) (S : St D C h') : Keep h h' where
 size := by
  rcases z3z h'.size h.size with hlt | hge
  · exfalso
    have h1 := (S.fz h'.size _ (l _ _ (show zp0 h h'.size = some h[h'.size] by simp [zp0, hlt]))).1
    have := zbl h1; omega
  · exact hge
 blk b hb _ := by
  have h1 := (S.fz b _ (l _ _ (show zp0 h b = some h[b] by simp [zp0, hb]))).1
  rw [h1]; simp [hb]
section
open Go.MapKept
def zyc : MV → MK → Option Value
 | [], _ => none
 | p :: m, k => if p.1 = k then some p.2 else zyc m k
def zyb : MV → MK → Value → MV
 | [], k, v => [(k, v)]
 | p :: m, k, v => if p.1 = k then (k, v) :: m else p :: zyb m k v
def zxi : MV → MK → MV
 | [], _ => []
 | p :: m, k => if p.1 = k then m else p :: zxi m k
theorem mIdx_get (m : MV) (k : MK) : ∀ i, (zrf m k i).map (·.2) = zyc m k := by
 induction m with
 | nil => intro i; rfl
 | cons p m ih => intro i; simp only [zrf, zyc]; split; rfl; exact ih _
theorem zre {m : MV} {k : MK} : ∀ {i}, zrf m k i = none → (∀ p ∈ m, p.1 ≠ k) ∧ ∀ v, zyb m k v = m ++ [(k, v)] := by
 induction m with
 | nil => intro i _; exact ⟨by simp, fun v => rfl⟩
 | cons p m ih =>
   intro i h
   simp only [zrf] at h
   split at h
   · cases h
   · rename_i hk
     obtain ⟨h1, h2⟩ := ih h
     refine ⟨fun q hq => ?_, fun v => ?_⟩
     · rcases z2e.1 hq with rfl | hq
       · exact hk
       · exact h1 q hq
     · simp only [zyb, if_neg hk, h2 v, z3r]
theorem zrd {m : MV} {k : MK} : ∀ {i j : Nat} {v : Value}, zrf m k i = some (j, v) → ∃ n, j = i + n ∧ m[n]? = some (k, v) ∧ (∀ x, zyb m k x = m.set n (k, x)) ∧ zxi m k = m.eraseIdx n := by
 induction m with
 | nil => intro i j v h; simp [zrf] at h
 | cons p m ih =>
   intro i j v h
   simp only [zrf] at h
   split at h
   · rename_i hk
     simp only [Option.some.injEq, Prod.mk.injEq] at h
     obtain ⟨rfl, rfl⟩ := h
     obtain ⟨pk, pv⟩ := p
     simp only at hk
     subst hk
     exact ⟨0, rfl, rfl, fun x => by simp [zyb], by simp [zxi]⟩
   · rename_i hk
     obtain ⟨n, h1, h2, h3, h4⟩ := ih h
     exact ⟨n + 1, by omega, by simpa using h2, fun x => by simp only [zyb, if_neg hk, h3 x, List.set_cons_succ], by simp only [zxi, if_neg hk, h4, z6t]⟩
theorem zvo {kt : KT} {m : MV} {k : MK} {v : Value} (hk : kt.has k = true) (hh : ∀ p ∈ m, kt.has p.1 = true) : ∀ p ∈ zyb m k v, kt.has p.1 = true := by
 induction m with
 | nil => intro p hp; simp [zyb] at hp; subst hp; exact hk
 | cons q m ih =>
   intro p hp
   simp only [zyb] at hp
   split at hp
   · rcases z2e.1 hp with rfl | hp
     · exact hk
     · exact hh p (by simp [hp])
   · rcases z2e.1 hp with rfl | hp
     · exact hh _ (by simp)
     · exact ih (fun r hr => hh r (by simp [hr])) p hp
theorem mDel_sub (m : MV) (k : MK) : (zxi m k).Sublist m := by
 induction m with
 | nil => exact .refl _
 | cons q m ih =>
   simp only [zxi]
   split
   · exact List.sublist_cons_self _ _
   · exact ih.cons_cons _
structure MpI (kt : KT) (es : Array MapEntry) (clk : Nat) (m : MV) : Prop where
 ent : zrh es.toList m
 st : Stamped es clk
 has : ∀ p ∈ m, kt.has p.1 = true
theorem MpI.nil (kt : KT) : MpI kt #[] 0 [] := ⟨rfl, stamped_empty 0, by simp⟩
theorem MpI.keyOf {kt : KT} {es : Array MapEntry} {clk : Nat} {m : MV} (I : MpI kt es clk m) {e : MapEntry} (he : e ∈ es.toList) : ∃ p ∈ m, e.key = mkV p.1 ∧ e.val = p.2 := by
 obtain ⟨i, hi⟩ := z3t.1 he
 obtain ⟨p, hp, h1, h2⟩ := zvp I.ent hi
 exact ⟨p, z2y hp, h1, h2⟩
section
variable {P : Program} {w : World} {T K E : TypeId} {kt : KT} {b : Nat} {es : Array MapEntry} {clk : Nat} {m : MV} {k : MK}
theorem run_look (hT : P.underlying T = some (.map K E)) (hk : znn P K = some kt) {i : TypeInfo} {z : Value} (hi : P.info? E = some i) (hz : i.zero = some z) (hb : w.heap[b]? = some (.map es clk)) (I : MpI kt es clk m) (hx : kt.has k = true) (ok : Bool) :
 (Instr.lookup T (.map (some b)) (mkV k) ok).run P w = .ok (if ok then .tuple #[(zyc m k).getD z, .bool (zyc m k).isSome] else (zyc m k).getD z) w := by
 have hg := mIdx_get m k 0
 have hzr : (zeroValue E).run P w = .ok z w := by
  simp only [zeroValue, Sem.run_bind, run_typeInfo w hi, z2h, hz, Sem.run_pure]
 simp only [Instr.lookup, Sem.run_bind, run_underlying hT, z2h, MapKept.run_getObj_map hb, Sem.run_pure, zb6 hk hx, zds hk hx I.ent I.has]
 cases hf : zrf m k 0 with
 | none =>
   rw [hf] at hg
   simp only [Option.map_none] at hg
   rw [← hg]
   simp only [Sem.run_bind, hzr, z2h, Sem.run_pure]
   cases ok <;> rfl
 | some p =>
   rw [hf] at hg
   simp only [z3h] at hg
   rw [← hg]
   simp only [Sem.run_bind, z2h, Sem.run_pure]
   cases ok <;> rfl
theorem zzg (hT : P.underlying T = some (.map K E)) (hk : znn P K = some kt) {i : TypeInfo} {z : Value} (hi : P.info? E = some i) (hz : i.zero = some z) (hx : kt.has k = true) (ok : Bool) :
 (Instr.lookup T (.map none) (mkV k) ok).run P w = .ok (if ok then .tuple #[z, .bool false] else z) w := by
 have hzr : (zeroValue E).run P w = .ok z w := by
  simp only [zeroValue, Sem.run_bind, run_typeInfo w hi, z2h, hz, Sem.run_pure]
 have hf := zds (P := P) (w := w) hk hx (es := []) (m := []) rfl (by simp)
 simp only [Instr.lookup, Sem.run_bind, run_underlying hT, z2h, Sem.run_pure, zb6 hk hx, hf, zrf, hzr]
theorem run_upd (hT : P.underlying T = some (.map K E)) (hk : znn P K = some kt) (hb : w.heap[b]? = some (.map es clk)) (I : MpI kt es clk m) (hx : kt.has k = true) (v : Value) :
 ∃ es' clk', (Instr.mapUpdate T (.map (some b)) (mkV k) v).run P w = .ok () { w with heap := w.heap.setIfInBounds b (.map es' clk') } ∧ MpI kt es' clk' (zyb m k v) := by
 cases hf : zrf m k 0 with
 | none =>
   obtain ⟨h1, h2⟩ := zre hf
   refine ⟨es.push ⟨mkV k, v, clk⟩, clk + 1, ?_, ?_, stamped_push I.st ?_, zvo hx I.has⟩
   · simp [Instr.mapUpdate, run_underlying hT, MapKept.run_getObj_map hb, zb6 hk hx, zds hk hx I.ent I.has, hf, MapKept.run_setObj_map _ hb, Result.andThen]
   · unfold zrh
     rw [h2 v]
     have := I.ent
     unfold zrh at this
     simp [this]
   · intro e he hke
     obtain ⟨p, hp, h3, -⟩ := I.keyOf he
     exact h1 p hp (mkV_inj (h3.symm.trans hke))
 | some q =>
   obtain ⟨j, u⟩ := q
   obtain ⟨n, h1, h2, h3, -⟩ := zrd hf
   rw [z2l] at h1
   subst h1
   have hjl : j < es.toList.length := by rw [zjk I.ent]; exact (z2a.1 h2).1
   obtain ⟨p, hp, hpk, -⟩ := zvp I.ent (z2c hjl)
   rw [h2] at hp
   cases hp
   have hj : es[j]? = some es.toList[j] := by rw [← z6q, z2c hjl]
   have hkeyf : ∀ e ∈ es.toList, es[j]? = some e → ({ e with key := mkV k, val := v } : MapEntry).key = e.key := fun e _ he => by
    rw [hj] at he; cases he; exact hpk.symm
   have hmod : (es.modify j fun e => { e with key := mkV k, val := v }).toList = es.toList.modify j fun e => { e with key := mkV k, val := v } := by simp
   refine ⟨es.modify j fun e => { e with key := mkV k, val := v }, clk, ?_, ?_, stamped_modify I.st _ _ (fun _ _ => rfl) hkeyf, zvo hx I.has⟩
   · have hgk : ((es[j]?).map (·.key)).getD (mkV k) = mkV k := by rw [hj]; exact hpk
     simp only [Instr.mapUpdate, Sem.run_bind, run_underlying hT, MapKept.run_getObj_map hb, zb6 hk hx, zds hk hx I.ent I.has, hf, hgk, zzd, MapKept.run_setObj_map _ hb, z2h]
   · unfold zrh
     rw [hmod, h3 v]
     apply z4o
     intro i
     have h4 := congrArg (fun l => l[i]?) I.ent
     simp only [z2i] at h4
     simp only [z2i, List.getElem?_modify, z31]
     by_cases hij : j = i
     · subst hij
       simp only [if_true]
       rw [z2c hjl]
       simp [show j < m.length by rw [← zjk I.ent]; exact hjl]
     · simp only [hij, if_false]
       cases hee : es.toList[i]? with
       | none => rw [hee] at h4; simpa using h4
       | some e => rw [hee] at h4; simpa using h4
theorem run_del {ty : TypeId} (hT : P.underlying T = some (.map K E)) (hk : znn P K = some kt) (hb : w.heap[b]? = some (.map es clk)) (I : MpI kt es clk m) (hx : kt.has k = true) :
 ∃ es', (Builtin.delete_ #[T, K] ty #[.map (some b), mkV k]).run P w = .ok (.tuple #[]) { w with heap := w.heap.setIfInBounds b (.map es' clk) } ∧ MpI kt es' clk (zxi m k) := by
 have hh : ∀ p ∈ zxi m k, kt.has p.1 = true := fun p hp => I.has p ((mDel_sub m k).subset hp)
 cases hf : zrf m k 0 with
 | none =>
   obtain ⟨h1, h2⟩ := zre hf
   have h3 : zxi m k = m := by
    have : ∀ l : MV, (∀ p ∈ l, p.1 ≠ k) → zxi l k = l := by
     intro l
     induction l with
     | nil => intro _; rfl
     | cons p l ih => intro h; simp only [zxi, if_neg (h p (by simp)), ih fun q hq => h q (by simp [hq])]
    exact this m h1
   refine ⟨es, ?_, by rw [h3]; exact I⟩
   simp [Builtin.delete_, run_underlying hT, MapKept.run_getObj_map hb, zb6 hk hx, zds hk hx I.ent I.has, hf, MapKept.run_setObj_map _ hb, Result.andThen]
 | some q =>
   obtain ⟨j, u⟩ := q
   obtain ⟨n, h1, h2, -, h4⟩ := zrd hf
   rw [z2l] at h1
   subst h1
   have hjl : j < es.toList.length := by rw [zjk I.ent]; exact (z2a.1 h2).1
   have hjs : j < es.size := by simpa using hjl
   have hsub : (es.eraseIdxIfInBounds j).toList = es.toList.eraseIdx j := by
    unfold Array.eraseIdxIfInBounds
    rw [dif_pos hjs]
    simp
   refine ⟨es.eraseIdxIfInBounds j, ?_, ?_, stamped_erase I.st j, hh⟩
   · simp [Builtin.delete_, run_underlying hT, MapKept.run_getObj_map hb, zb6 hk hx, zds hk hx I.ent I.has, hf, MapKept.run_setObj_map _ hb, Result.andThen]
   · unfold zrh
     rw [hsub, h4]
     have e := I.ent
     unfold zrh at e
     rw [Go.ChangeMaps.map_eraseIdx, e, ← Go.ChangeMaps.map_eraseIdx]
end
end
end Go.Proofs.YtalglagdgabafaaGreat
