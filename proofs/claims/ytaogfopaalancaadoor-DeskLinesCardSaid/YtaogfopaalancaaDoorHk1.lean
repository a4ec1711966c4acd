/- From the rows' reading of arguments to data: any type of numbers, truth values, strings, structs, arrays and slices. -/
import Derived.Lib.ItoaNum
import Derived.Lib.ParseIntB
import Derived.WalkKit
import Derived.Orders
import Derived.KernelRfl
import Derived.Lib.SplitLaws
import Derived.Shelf.LaysM
import Derived.Shelf.LaysC
import Derived.Shelf.Strings.OnBuilder
import Derived.Test.YtaogfopaalancaaDoorProg
import Derived.ChangeKeysEq
import Derived.MapKept
import Derived.Lib.LaidTab
import Derived.Lib.Space
import Derived.ChangeMaps4
import Derived.RangeFuncIn
import Derived.RangeFuncLeaves
import Derived.RangeFuncRecord
import Derived.OrdersIn
import Derived.TacticsIn
import Derived.ProofKit
import Derived.Deep.Slices
/- Decimal numbers as texts: what is parsed by the library and told again, and what the digits add up to, are one. -/
set_option linter.unusedVariables false
namespace Go.Proofs.YtaogfopaalancaaDoor
open Go Go.Lib
abbrev Bs := List UInt8
def decK : Nat → Nat → Bs
 | 0, _ => []
 | f + 1, u => cond (Nat.blt u 10) [UInt8.ofNat (48 + u)] (decK f (u / 10) ++ [UInt8.ofNat (48 + u % 10)])
def itoaK (v : Int) : Bs :=
 match v with
 | .ofNat u => decK 20 u
 | .negSucc u => 45 :: decK 20 (u + 1)
theorem decK_eq : ∀ (f u : Nat), u < 10 ^ (f + 1) → decK (f + 1) u = decDigits u
 | f, u, h => by
   rw [decK]
   by_cases hu : u < 10
   · rw [show Nat.blt u 10 = true from Nat.ble_eq_true_of_le hu, decDigits_one hu]; rfl
   · rw [show Nat.blt u 10 = false by rw [← Bool.not_eq_true]; intro hh; exact hu (Nat.le_of_ble_eq_true hh), decDigits, dif_neg hu]
     cases f with
     | zero => omega
     | succ f => rw [decK_eq f (u / 10) (by rw [Nat.pow_succ] at h; omega)]; rfl
theorem itoaK_eq {v : Int} (h1 : -9223372036854775808 ≤ v) (h2 : v ≤ 9223372036854775807) : itoaK v = itoa v := by
 cases v with
 | ofNat u =>
   show decK 20 u = _
   rw [decK_eq 19 u (by simp at h2; omega), itoa, if_neg (by simp)]; rfl
 | negSucc u =>
   show 45 :: decK 20 (u + 1) = _
   rw [decK_eq 19 (u + 1) (by omega), itoa, if_pos (by omega)]
   rfl
def numL (l : Bs) : Option Int :=
 match parseIntB 64 l with
 | .ok v => if itoaK v = l then some v else none
 | _ => none
def isN (l : Bs) (v : Int) : Prop := -9223372036854775808 ≤ v ∧ v ≤ 9223372036854775807 ∧ itoa v = l
theorem toNat_dig {d : Nat} (h : d < 10) : (UInt8.ofNat (48 + d)).toNat = 48 + d := by
 rw [UInt8.toNat_ofNat']; omega
theorem pU_app (M : Nat) : ∀ (l r : Bs) (a : Nat), parseUintM M a (l ++ r) = (match parseUintM M a l with | .ok b => parseUintM M b r | e => e)
 | [], r, a => rfl
 | c :: l, r, a => by
   rw [List.cons_append, parseUintM, parseUintM]
   split
   · split
     · rfl
     · split
       · rfl
       · exact pU_app M l r _
   · rfl
theorem pU_dec : ∀ u : Nat, u ≤ 18446744073709551615 → parseUintM 18446744073709551615 0 (decDigits u) = .ok u := by
 intro u
 induction u using Nat.strongRecOn with
 | _ u ih =>
   intro hu
   by_cases h : u < 10
   · rw [decDigits_one h, parseUintM, toNat_dig h, if_pos (by omega), if_neg (by omega), if_neg (by omega)]
     simp [parseUintM]
   · rw [decDigits, dif_neg h, pU_app, ih (u / 10) (by omega) (by omega)]
     have hd : u % 10 < 10 := Nat.mod_lt _ (by decide)
     simp only
     rw [parseUintM, toNat_dig hd, if_pos (by omega), if_neg (by omega), if_neg (by omega), parseUintM]
     congr 1; omega
theorem dec_head (u : Nat) : ∃ c r, decDigits u = c :: r ∧ 48 ≤ c.toNat ∧ c.toNat ≤ 57 := by
 induction u using Nat.strongRecOn with
 | _ u ih =>
   by_cases h : u < 10
   · exact ⟨_, [], decDigits_one h, by rw [toNat_dig h]; omega, by rw [toNat_dig h]; omega⟩
   · obtain ⟨c, r, e, h1, h2⟩ := ih (u / 10) (by omega)
     exact ⟨c, _, by rw [decDigits, dif_neg h, e]; rfl, h1, h2⟩
theorem nDigits_le : ∀ (k u : Nat), u < 10 ^ (k + 1) → nDigits u ≤ k + 1
 | 0, u, h => by rw [nDigits_small (by simpa using h)]; exact Nat.le_refl _
 | k + 1, u, h => by
   by_cases hs : u < 10
   · rw [nDigits_small hs]; omega
   · have := nDigits_le k (u / 10) (by rw [Nat.pow_succ] at h; omega)
     rw [nDigits_big hs]; omega
theorem dec_len {u : Nat} (h : u ≤ 9223372036854775808) : 1 ≤ (decDigits u).length ∧ (decDigits u).length ≤ 19 := by
 rw [decDigits_length]
 exact ⟨nDigits_pos u, nDigits_le 18 u (by omega)⟩
theorem u8_ext {a b : UInt8} (h : a.toNat = b.toNat) : a = b := UInt8.toNat_inj.1 h
theorem parse_itoa {v : Int} (h1 : -9223372036854775808 ≤ v) (h2 : v ≤ 9223372036854775807) : parseIntB 64 (itoa v) = .ok v := by
 by_cases hv : v < 0
 · have e : itoa v = 45 :: decDigits v.natAbs := by rw [itoa, if_pos hv]
   obtain ⟨c, r, hc, -, -⟩ := dec_head v.natAbs
   rw [e, parseIntB, if_pos (by decide), parseUintB, if_neg (by rw [hc]; exact List.cons_ne_nil _ _)]
   have := pU_dec v.natAbs (by omega)
   simp only [show 2 ^ 64 - 1 = 18446744073709551615 from rfl, this]
   rw [if_neg (fun h => h.1 rfl), if_neg (by omega), if_pos (show UInt8.toNat 45 = 45 from rfl)]
   congr 1; omega
 · have e : itoa v = decDigits v.toNat := by rw [itoa, if_neg hv]
   obtain ⟨c, r, hc, h3, h4⟩ := dec_head v.toNat
   have := pU_dec v.toNat (by omega)
   rw [e, hc] at *
   rw [parseIntB, if_neg (by omega), parseUintB, if_neg (List.cons_ne_nil _ _)]
   simp only [show 2 ^ 64 - 1 = 18446744073709551615 from rfl, this]
   rw [if_neg (by omega), if_neg (by omega), if_neg (by omega)]
   congr 1; omega
theorem parse_in {l : Bs} {v : Int} (h : parseIntB 64 l = .ok v) : -9223372036854775808 ≤ v ∧ v ≤ 9223372036854775807 := by
 cases l with
 | nil => cases h
 | cons c r =>
   rw [parseIntB] at h
   split at h <;> try cases h
   rename_i u hu
   split at h
   · cases h
   · split at h
     · cases h
     · simp only [show (2 : Nat) ^ (64 - 1) = 9223372036854775808 from rfl] at *
       injection h with h
       subst h
       split <;> omega
theorem numL_iff {l : Bs} {v : Int} : numL l = some v ↔ isN l v := by
 constructor
 · intro h
   unfold numL at h
   split at h
   · rename_i w hw
     split at h
     · rename_i hi
       cases h
       exact ⟨(parse_in hw).1, (parse_in hw).2, itoaK_eq (parse_in hw).1 (parse_in hw).2 ▸ hi⟩
     · cases h
   · cases h
 · rintro ⟨h1, h2, rfl⟩
   unfold numL
   rw [parse_itoa h1 h2]
   simp only
   rw [if_pos (itoaK_eq h1 h2)]
theorem numL_itoa {v : Int} (h1 : -9223372036854775808 ≤ v) (h2 : v ≤ 9223372036854775807) : numL (itoa v) = some v := numL_iff.2 ⟨h1, h2, rfl⟩
end Go.Proofs.YtaogfopaalancaaDoor
/- The engine, part a: heap-only predicates for the model's operations and for calls (sound over any program). -/
namespace Go.Proofs.YtaogfopaalancaaDoor
open Go
abbrev Heap := Array Obj
def hcell (h : Heap) (a : Addr) : Option Value :=
 match h[a.block]? with
 | some (.cells c _ _) => if a.spot.isSome then none else c[a.off]?
 | _ => none
def hshape (h : Heap) (r : Nat) : Option (TypeId × Nat) :=
 match h[r]? with
 | some (.cells c elem _) => some (elem, c.size)
 | _ => none
def hfroz (h : Heap) (a : Addr) : Bool :=
 match h[a.block]? with
 | some (.cells _ _ (lo, hi)) => lo ≤ a.off && a.off < hi
 | _ => false
def hset (h : Heap) (a : Addr) (v : Value) : Heap :=
 h.modify a.block fun
  | .cells c elem frozen => .cells (if a.spot.isSome then c else c.setIfInBounds a.off v) elem frozen
  | o => o
def isCells : Obj → Bool
 | .cells .. => true
 | _ => false
def single : Value → Bool
 | .agg _ | .tuple _ => false
 | _ => true
abbrev Dr (_ _ : Nat) : Prop := True
theorem Dr.refl (a : Nat) : Dr a a := trivial
theorem Dr.succ (a : Nat) : Dr a (a + 1) := trivial
theorem Dr.trans {a b c : Nat} (_ : Dr a b) (_ : Dr b c) : Dr a c := trivial
structure Same (w w' : World) : Prop where
 tape : w'.tape = w.tape
 os : w'.os = w.os
 output : w'.output = w.output
 drawn : Dr w.drawn w'.drawn
theorem Same.refl (w : World) : Same w w := ⟨rfl, rfl, rfl, .refl _⟩
theorem Same.trans {a b c : World} (h : Same a b) (k : Same b c) : Same a c :=
 ⟨k.tape.trans h.tape, k.os.trans h.os, k.output.trans h.output, h.drawn.trans k.drawn⟩
def SWp {α : Type} (P : Program) : Sem α → Heap → (α → Heap → Prop) → Prop
 | .pure a, h, K => K a h
 | .load _ a k, h, K => ∃ v, hcell h a = some v ∧ SWp P (k v) h K
 | .store _ a v k, h, K => single v = true ∧ (∃ u, hcell h a = some u) ∧ hfroz h a = false ∧ SWp P k (hset h a v) K
 | .new o k, h, K => SWp P (k h.size) (h.push o) K
 | .shape r k, h, K => SWp P (k (hshape h r)) h K
 | .freeze .., _, _ => False
 | .frozen a k, h, K => SWp P (k (hfroz h a)) h K
 | .getObj r k, h, K => ∃ o, h[r]? = some o ∧ isCells o = false ∧ SWp P (k o) h K
 | .setObj r o k, h, K => (∃ u, h[r]? = some u ∧ isCells u = false) ∧ SWp P k (h.setIfInBounds r o) K
 | .choose q k, h, K => (q.forced = true → SWp P (k 0) h K) ∧ (q.forced = false → ∀ t, SWp P (k (q.cut t)) h K)
 | .sys .., _, _ => False
 | .program k, h, K => SWp P (k P) h K
 | .mark _ k, h, K => SWp P k h K
 | .halt _, _, _ => False
theorem SWp.sound {α : Type} {P : Program} {s : Sem α} : ∀ {h : Heap} {K : α → Heap → Prop}, SWp P s h K → ∀ w : World, w.heap = h →
 ∃ a w', s.run P w = .ok a w' ∧ K a w'.heap ∧ Same w w' := by
 induction s with
 | pure a => intro h K hs w hw; exact ⟨a, w, rfl, hw ▸ hs, .refl w⟩
 | load m a k ih =>
   intro h K hs w hw
   obtain ⟨v, hv, hk⟩ := hs
   subst hw
   have hv' : w.cell? a = some v := hv
   simp only [Sem.run, hv']
   exact ih v hk w rfl
 | store m a v k ih =>
   intro h K hs w hw
   obtain ⟨h1, ⟨u, hu⟩, hf, hk⟩ := hs
   subst hw
   have hu' : w.cell? a = some u := hu
   have hf' : w.frozen? a = false := hf
   obtain ⟨x, w', hr, hK, hS⟩ := ih hk (w.setCell a v) rfl
   refine ⟨x, w', ?_, hK, ⟨hS.tape, hS.os, hS.output, hS.drawn⟩⟩
   rw [← hr]
   cases v <;> simp [single] at h1 <;> simp [Sem.run, hu', hf']
 | new o k ih =>
   intro h K hs w hw
   subst hw
   obtain ⟨x, w', hr, hK, hS⟩ := ih w.heap.size hs { w with heap := w.heap.push o } rfl
   exact ⟨x, w', hr, hK, ⟨hS.tape, hS.os, hS.output, hS.drawn⟩⟩
 | shape r k ih =>
   intro h K hs w hw
   subst hw
   exact ih (w.shape? r) hs w rfl
 | freeze a n k ih => intro h K hs; exact hs.elim
 | frozen a k ih =>
   intro h K hs w hw
   subst hw
   exact ih (w.frozen? a) hs w rfl
 | getObj r k ih =>
   intro h K hs w hw
   subst hw
   obtain ⟨o, ho, hc, hk⟩ := hs
   obtain ⟨x, w', hr, hK, hS⟩ := ih o hk w rfl
   refine ⟨x, w', ?_, hK, hS⟩
   rw [← hr]
   cases o <;> simp [isCells] at hc <;> simp [Sem.run, ho]
 | setObj r o k ih =>
   intro h K hs w hw
   subst hw
   obtain ⟨⟨u, hu, hc⟩, hk⟩ := hs
   obtain ⟨x, w', hr, hK, hS⟩ := ih hk { w with heap := w.heap.setIfInBounds r o } rfl
   refine ⟨x, w', ?_, hK, ⟨hS.tape, hS.os, hS.output, hS.drawn⟩⟩
   rw [← hr]
   cases u <;> simp [isCells] at hc <;> simp [Sem.run, hu]
 | choose q k ih =>
   intro h K hs w hw
   subst hw
   by_cases hq : q.forced = true
   · obtain ⟨x, w', hr, hK, hS⟩ := ih 0 (hs.1 hq) w rfl
     exact ⟨x, w', by simp only [Sem.run, hq, if_true]; exact hr, hK, hS⟩
   · have hq' : q.forced = false := by simpa using hq
     obtain ⟨x, w', hr, hK, hS⟩ := ih (q.cut (w.tape w.drawn q)) (hs.2 hq' _) { w with drawn := w.drawn + 1 } rfl
     exact ⟨x, w', by simp only [Sem.run, hq', Bool.false_eq_true, if_false]; exact hr, hK, ⟨hS.tape, hS.os, hS.output, (Dr.succ _).trans hS.drawn⟩⟩
 | sys c k ih => intro h K hs; exact hs.elim
 | program k ih => intro h K hs w hw; exact ih P hs w hw
 | mark m k ih => intro h K hs w hw; exact ih hs w hw
 | halt x => intro h K hs; exact hs.elim
theorem SWp.mono {α : Type} {P : Program} {s : Sem α} : ∀ {h : Heap} {K K' : α → Heap → Prop}, (∀ a h', K a h' → K' a h') → SWp P s h K → SWp P s h K' := by
 induction s with
 | pure a => intro h K K' hk hs; exact hk _ _ hs
 | load m a k ih => intro h K K' hk hs; obtain ⟨v, hv, h2⟩ := hs; exact ⟨v, hv, ih v hk h2⟩
 | store m a v k ih => intro h K K' hk hs; exact ⟨hs.1, hs.2.1, hs.2.2.1, ih hk hs.2.2.2⟩
 | new o k ih => intro h K K' hk hs; exact ih _ hk hs
 | shape r k ih => intro h K K' hk hs; exact ih _ hk hs
 | freeze a n k ih => intro h K K' hk hs; exact hs
 | frozen a k ih => intro h K K' hk hs; exact ih _ hk hs
 | getObj r k ih => intro h K K' hk hs; obtain ⟨o, ho, hc, h2⟩ := hs; exact ⟨o, ho, hc, ih o hk h2⟩
 | setObj r o k ih => intro h K K' hk hs; exact ⟨hs.1, ih hk hs.2⟩
 | choose q k ih => intro h K K' hk hs; exact ⟨fun hq => ih 0 hk (hs.1 hq), fun hq t => ih _ hk (hs.2 hq t)⟩
 | sys c k ih => intro h K K' hk hs; exact hs
 | program k ih => intro h K K' hk hs; exact ih P hk hs
 | mark m k ih => intro h K K' hk hs; exact ih hk hs
 | halt x => intro h K K' hk hs; exact hs
theorem SWp.bind {α β : Type} {P : Program} {s : Sem α} {f : α → Sem β} : ∀ {h : Heap} {K : β → Heap → Prop},
 SWp P s h (fun a h' => SWp P (f a) h' K) → SWp P (s >>= f) h K := by
 show ∀ {h : Heap} {K : β → Heap → Prop}, SWp P s h (fun a h' => SWp P (f a) h' K) → SWp P (s.bind f) h K
 induction s with
 | pure a => intro h K hs; exact hs
 | load m a k ih => intro h K hs; obtain ⟨v, hv, h2⟩ := hs; exact ⟨v, hv, ih v h2⟩
 | store m a v k ih => intro h K hs; exact ⟨hs.1, hs.2.1, hs.2.2.1, ih hs.2.2.2⟩
 | new o k ih => intro h K hs; exact ih _ hs
 | shape r k ih => intro h K hs; exact ih _ hs
 | freeze a n k ih => intro h K hs; exact hs
 | frozen a k ih => intro h K hs; exact ih _ hs
 | getObj r k ih => intro h K hs; obtain ⟨o, ho, hc, h2⟩ := hs; exact ⟨o, ho, hc, ih o h2⟩
 | setObj r o k ih => intro h K hs; exact ⟨hs.1, ih hs.2⟩
 | choose q k ih => intro h K hs; exact ⟨fun hq => ih 0 (hs.1 hq), fun hq t => ih _ (hs.2 hq t)⟩
 | sys c k ih => intro h K hs; exact hs
 | program k ih => intro h K hs; exact ih P hs
 | mark m k ih => intro h K hs; exact ih hs
 | halt x => intro h K hs; exact hs
def Callable (P : Program) (f : FuncId) : Prop := ∃ fn, P.funcs[f]? = some fn ∧ (fn.name == "runtime.NumGoroutine") = false ∧ fn.body.isNone = false
def Run (P : Program) (f : FuncId) (args : List Value) (h : Heap) (R : Value → Heap → Prop) : Prop :=
 Callable P f ∧ ∀ w : World, w.heap = h → Calls P f args.toArray w fun e w' => ∃ v, e = .returned v ∧ R v w'.heap ∧ Same w w'
theorem Run.mono {P : Program} {f : FuncId} {args : List Value} {h : Heap} {R R' : Value → Heap → Prop} (hr : Run P f args h R)
 (hi : ∀ v h', R v h' → R' v h') : Run P f args h R' :=
 ⟨hr.1, fun w hw => (hr.2 w hw).mono fun _ _ ⟨v, he, hR, hS⟩ => ⟨v, he, hi _ _ hR, hS⟩⟩
theorem run_callFunc {P : Program} {f : FuncId} (hc : Callable P f) (args : Array Value) (w : World) :
 (callFunc f args).run P w = .ok (.enter f args) w := by
 obtain ⟨fn, hf, hn, hb⟩ := hc
 unfold callFunc
 show Sem.run P (Sem.bind program _) w = _
 simp only [program, Sem.bind, Sem.run, hf]
 rw [if_neg (by rw [hn]; simp), if_neg (by rw [hb]; simp)]
 rfl
end Go.Proofs.YtaogfopaalancaaDoor
/- The engine, part b: the verification condition of a function's code, by recursion on the code (definitions alone). -/
namespace Go.Proofs.YtaogfopaalancaaDoor
open Go
def lget : List Value → Nat → Value
 | [], _ => undef
 | v :: _, 0 => v
 | _ :: l, n + 1 => lget l n
def lset : List Value → Nat → Value → List Value
 | [], _, _ => []
 | _ :: l, 0, v => v :: l
 | x :: l, n + 1, v => x :: lset l n v
def lput (t : List Value) (d : Option Tmp) (v : Value) : List Value :=
 match d with
 | some i => lset t i v
 | none => t
def ev (t : List Value) : Operand → Value
 | .tmp i => lget t i
 | .const v => v
 | .global g => .pointer (some ⟨g, 0, none⟩)
 | .func f => .func (.func f) #[] #[]
inductive Sh where
 | i (k : IntKind) | b | s | p | sl | m | v
def shOf : Value → Sh
 | .int k _ => .i k
 | .bool _ => .b
 | .string _ => .s
 | .pointer _ => .p
 | .slice .. => .sl
 | .map _ => .m
 | _ => .v
def Sh.Ex (x : Sh) (f : Value → Prop) : Prop :=
 match x with
 | .i k => ∃ n : Int, f (.int k n)
 | .b => ∃ c : Bool, f (.bool c)
 | .s => ∃ s : ByteArray, f (.string s)
 | .p => ∃ a : Option Addr, f (.pointer a)
 | .sl => ∃ (a : Option Addr) (n c : Nat), f (.slice a n c)
 | .m => ∃ r : Option Nat, f (.map r)
 | .v => ∃ v : Value, f v
def exL : List Value → (List Value → Prop) → Prop
 | [], f => f []
 | z :: l, f => (shOf z).Ex fun v => exL l fun vs => f (v :: vs)
def exE (z : Value) (f : Value → Prop) : Prop :=
 match z with
 | .agg cs => exL cs.toList fun vs => f (.agg vs.toArray)
 | z => (shOf z).Ex f
def exT : List Value → (List Value → Prop) → Prop
 | [], f => f []
 | z :: l, f => exE z fun v => exT l fun vs => f (v :: vs)
def exZ (z : Value) (f : Value → Prop) : Prop :=
 match z with
 | .tuple cs => exT cs.toList fun vs => f (.tuple vs.toArray)
 | z => exE z f
def onPtr (a : Option Addr) (K : Nat → Nat → Prop) : Prop :=
 match a with
 | some ⟨b, o, none⟩ => K b o
 | _ => False
def addO (o n : Nat) : Nat := cond (Nat.beq n 0) o (o + n)
inductive Lay where
 | one (z : Value)
 | many (cs : List Value)
def layOf (P : Program) (t : TypeId) : Option Lay :=
 match P.underlying t, P.info? t with
 | some (.struct _), some i | some (.array ..), some i =>
   match i.zero with
   | some (.agg cs) => if cs.size = i.size then some (.many cs.toList) else none
   | _ => none
 | some _, some i =>
   match i.zero with
   | some z => if single z = true ∧ i.size = 1 then some (.one z) else none
   | none => none
 | _, _ => none
def loadS (h : Heap) (b o : Nat) : List Value → Nat → (List Value → Prop) → Prop
 | [], _, K => K []
 | z :: l, i, K => (shOf z).Ex fun v => hcell h ⟨b, addO o i, none⟩ = some v ∧ loadS h b o l (i + 1) fun vs => K (v :: vs)
def loadK (P : Program) (t : TypeId) (a : Option Addr) (h : Heap) (K : Value → Prop) : Prop :=
 match layOf P t with
 | some (.one z) => onPtr a fun b o => (shOf z).Ex fun v => hcell h ⟨b, o, none⟩ = some v ∧ K v
 | some (.many cs) => onPtr a fun b o => loadS h b o cs 0 fun vs => K (.agg vs.toArray)
 | none => False
def stK (h : Heap) (a : Addr) (v : Value) (K : Heap → Prop) : Prop :=
 single v = true ∧ (∃ u, hcell h a = some u) ∧ hfroz h a = false ∧ K (hset h a v)
def newB (h : Heap) (o : Obj) (K : Nat → Heap → Prop) : Prop := K h.size (h.push o)
def storeS (b o : Nat) : List Value → Nat → Heap → (Heap → Prop) → Prop
 | [], _, h, K => K h
 | v :: l, i, h, K => stK h ⟨b, addO o i, none⟩ v fun h' => storeS b o l (i + 1) h' K
def storeK (P : Program) (t : TypeId) (a : Option Addr) (x : Value) (h : Heap) (K : Heap → Prop) : Prop :=
 match layOf P t, x with
 | some (.one _), x => onPtr a fun b o => stK h ⟨b, o, none⟩ x K
 | some (.many cs), .agg vs => onPtr a fun b o => cond (Nat.beq cs.length vs.toList.length) (storeS b o vs.toList 0 h K) False
 | _, _ => False
def XWp {α : Type} (P : Program) : Sem α → (α → Prop) → Prop
 | .pure a, K => K a
 | .program k, K => XWp P (k P) K
 | .mark _ k, K => XWp P k K
 | _, _ => False
def PWp {α : Type} (P : Program) : Sem α → Heap → (α → Prop) → Prop
 | .pure a, _, K => K a
 | .load _ a k, h, K => ∃ v, hcell h a = some v ∧ PWp P (k v) h K
 | .shape r k, h, K => PWp P (k (hshape h r)) h K
 | .frozen a k, h, K => PWp P (k (hfroz h a)) h K
 | .getObj r k, h, K => ∃ o, h[r]? = some o ∧ isCells o = false ∧ PWp P (k o) h K
 | .program k, h, K => PWp P (k P) h K
 | .mark _ k, h, K => PWp P k h K
 | _, _, _ => False
def kindNo : IntKind → Nat
 | .i8 => 0 | .i16 => 1 | .i32 => 2 | .i64 => 3 | .u8 => 4 | .u16 => 5 | .u32 => 6 | .u64 => 7
def eqV : Value → Value → Option Bool
 | .int k a, .int k' b => cond (Nat.beq (kindNo k) (kindNo k')) (some (a == b)) none
 | .bool a, .bool b => some (a == b)
 | .string a, .string b => some (a.toList == b.toList)
 | _, _ => none
def eqL : List Value → List Value → Option Bool
 | [], [] => some true
 | x :: xs, y :: ys =>
   match eqV x y, eqL xs ys with
   | some a, some b => some (a && b)
   | _, _ => none
 | _, _ => none
def flat (P : Program) : List Field → Nat → Bool
 | [], _ => true
 | f :: l, i => (f.offset == i) && (f.name != "_") && (match P.underlying f.type with | some .bool | some (.int _) | some .string => true | _ => false) && flat P l (i + 1)
def fits (P : Program) : List Field → List Value → Bool
 | [], [] => true
 | f :: fs, v :: vs => (match P.underlying f.type, v with | some .bool, .bool _ => true | some (.int _), .int _ _ => true | some .string, .string _ => true | _, _ => false) && fits P fs vs
 | _, _ => false
def intK (op : BinOp) (k : IntKind) (x y : Int) (K : Value → Prop) : Prop :=
 match op with
 | .add => K (.int k (k.wrap (x + y)))
 | .sub => K (.int k (k.wrap (x - y)))
 | .mul => K (.int k (k.wrap (x * y)))
 | .quo => y ≠ 0 ∧ K (.int k (k.wrap (x.tdiv y)))
 | .rem => y ≠ 0 ∧ K (.int k (x.tmod y))
 | .eql => K (.bool (x == y))
 | .neq => K (.bool (x != y))
 | .lss => K (.bool (x < y))
 | .leq => K (.bool (x ≤ y))
 | .gtr => K (.bool (x > y))
 | .geq => K (.bool (x ≥ y))
 | .and => K (.int k (k.wrap (BitVec.ofInt k.bits x &&& BitVec.ofInt k.bits y).toNat))
 | .or => K (.int k (k.wrap (BitVec.ofInt k.bits x ||| BitVec.ofInt k.bits y).toNat))
 | .xor => K (.int k (k.wrap (BitVec.ofInt k.bits x ^^^ BitVec.ofInt k.bits y).toNat))
 | .andNot => K (.int k (k.wrap (BitVec.ofInt k.bits x &&& ~~~BitVec.ofInt k.bits y).toNat))
 | .shl => 0 ≤ y ∧ K (.int k (k.wrap (x * 2 ^ (min y.toNat k.bits))))
 | .shr => 0 ≤ y ∧ K (.int k (x.fdiv (2 ^ (min y.toNat k.bits))))
def nilEq (op : BinOp) (z : Bool) (K : Value → Prop) : Prop :=
 match op with
 | .eql => K (.bool z)
 | .neq => K (.bool !z)
 | _ => False
def strK (op : BinOp) (x y : ByteArray) (K : Value → Prop) : Prop :=
 match op with
 | .add => x.size + y.size < 9223372036854775808 ∧ K (.string (x ++ y))
 | .eql => K (.bool (x.toList == y.toList))
 | .neq => K (.bool !(x.toList == y.toList))
 | .lss => K (.bool (Op.bytesLess x.toList y.toList))
 | .leq => K (.bool (Op.bytesLess x.toList y.toList || x.toList == y.toList))
 | .gtr => K (.bool !(Op.bytesLess x.toList y.toList || x.toList == y.toList))
 | .geq => K (.bool !(Op.bytesLess x.toList y.toList))
 | _ => False
def kindEq (k k' : IntKind) (A : Prop) : Prop := cond (Nat.beq (kindNo k) (kindNo k')) A False
def binK (P : Program) (op : BinOp) (T : TypeId) (x y : Value) (K : Value → Prop) : Prop :=
 match x, y with
 | .int k a, .int k' b =>
   match op with
   | .shl => 0 ≤ b ∧ K (.int k (k.wrap (a * 2 ^ (min b.toNat k.bits))))
   | .shr => 0 ≤ b ∧ K (.int k (a.fdiv (2 ^ (min b.toNat k.bits))))
   | op => kindEq k k' (intK op k a b K)
 | .string a, .string b => strK op a b K
 | .bool a, .bool b => match P.underlying T with | some .bool => nilEq op (a == b) K | _ => False
 | .pointer a, .pointer none => match P.underlying T with | some (.pointer _) => nilEq op a.isNone K | _ => False
 | .slice a _ _, .slice none _ _ => match P.underlying T with | some (.slice _) => nilEq op a.isNone K | _ => False
 | .map a, .map none => match P.underlying T with | some (.map ..) => nilEq op a.isNone K | _ => False
 | .agg xs, .agg ys =>
   match P.underlying T with
   | some (.struct fs) => cond (flat P fs.toList 0 && !P.stoodInHeld T && !P.eqGuardType P.depth T)
    (cond (fits P fs.toList xs.toList && Nat.beq xs.toList.length fs.toList.length && Nat.beq ys.toList.length fs.toList.length)
     (match eqL xs.toList ys.toList with | some c => nilEq op c K | none => False) False) False
   | _ => False
 | _, _ => False
def pickK (c a b : Value) (K : Value → Prop) : Prop :=
 match c, a, b with
 | .bool c, .bool x, .bool y => K (.bool (cond c x y))
 | .bool c, a, b => cond c (K a) (K b)
 | _, _, _ => False
def lay1 (P : Program) (t : TypeId) : Nat := ((P.info? t).map (·.size)).getD 0
def subN (a b : Nat) : Nat := cond (Nat.beq b 0) a (a - b)
def slA (a : Option Addr) (c l s : Nat) : Option Addr := cond (Nat.beq l 0) a (if c = l then a else a.map fun x => ⟨x.block, x.off + l * s, none⟩)
def leK (c : Bool) (l r : Int) (K : Prop) : Prop := cond c K (l ≤ r ∧ K)
def nz (n : Nat) (A : Prop) : Prop := cond (Nat.beq n 0) False A
def splice : List Value → Nat → List Value → List Value
 | l, _, [] => l
 | [], _, _ => []
 | _ :: l, 0, v :: vs => v :: splice l 0 vs
 | x :: l, n + 1, v :: vs => x :: splice l n (v :: vs)
def fillL (place : Nat → Option (Nat × Nat)) : List Value → List (Nat × Value) → Option (List Value)
 | l, [] => some l
 | l, (i, v) :: rest =>
   match place i with
   | none => none
   | some (o, s) => cond (Nat.beq v.cells.toList.length s && Nat.ble (o + v.cells.toList.length) l.length) (fillL place (splice l o v.cells.toList) rest) none
def placeOf (P : Program) (fs : List Field) (i : Nat) : Option (Nat × Nat) :=
 match fs[i]? with
 | some f => some (f.offset, lay1 P f.type)
 | none => none
def allLaid (P : Program) : List Field → Bool
 | [] => true
 | f :: fs => !Nat.beq (lay1 P f.type) 0 && allLaid P fs
def pureOp (o : Oper) : Bool :=
 match o.op with
 | .move _ | .assign _ | .pick .. | .nilCheck _ | .binOp .. | .unOp .. | .convert .. | .makeFunc .. | .fieldAddr .. | .field .. | .indexAddr .. | .index .. | .extract .. | .slice .. | .build .. => true
 | .call { callee := .builtin .len, argTypes := _, args := _ } => false
 | .call { callee := .builtin .min, .. } | .call { callee := .builtin .max, .. } => true
 | _ => false
def readOp (o : Oper) : Bool :=
 match o.op with
 | .load .. | .lookup .. => true
 | .call { callee := .builtin .len, .. } => true
 | _ => false
def nextV (K : Value → Prop) : Next → Prop
 | .value v => K v
 | _ => False
def bnd (t : List Value) (x : Option Operand) (d : Int) : Option Int :=
 match x with
 | none => some d
 | some x => match ev t x with | .int _ i => some i | _ => none
def pureK (P : Program) (t : List Value) (o : Oper) (K : Value → Prop) : Prop :=
 match o.op with
 | .move x | .assign x => K (ev t x)
 | .pick c a b => pickK (ev t c) (ev t a) (ev t b) K
 | .nilCheck x =>
   match ev t x with
   | .pointer a => onPtr a fun b o => K (.pointer (some ⟨b, o, none⟩))
   | .func (.func f) a b => K (.func (.func f) a b)
   | _ => False
 | .binOp op T x y _ => binK P op T (ev t x) (ev t y) K
 | .fieldAddr s x f =>
   match P.underlying s, ev t x with
   | some (.struct fs), .pointer a =>
     match fs[f]? with
     | some fd => nz (lay1 P fd.type) (onPtr a fun b o => K (.pointer (some ⟨b, addO o fd.offset, none⟩)))
     | none => False
   | _, _ => False
 | .indexAddr T x i =>
   match P.underlying T, ev t x, ev t i with
   | some (.slice e), .slice a n _, .int _ i => onPtr a fun b o => 0 ≤ i ∧ i < n ∧ nz (lay1 P e) (K (.pointer (some ⟨b, o + i.toNat * lay1 P e, none⟩)))
   | some (.array n e), .pointer a, .int _ i => onPtr a fun b o => 0 ≤ i ∧ i < n ∧ nz (lay1 P e) (K (.pointer (some ⟨b, o + i.toNat * lay1 P e, none⟩)))
   | _, _, _ => False
 | .index T x i =>
   match P.underlying T, ev t x, ev t i with
   | some .string, .string s, .int _ i => 0 ≤ i ∧ i < s.size ∧ K (.int .u8 (s.data.getD i.toNat 0).toNat)
   | _, _, _ => XWp P (execOp (ev t) o) (nextV K)
 | .build T ps =>
   match P.underlying T, P.info? T with
   | some (.struct fs), some i =>
     match i.zero with
     | some (.agg cs) => cond (allLaid P fs.toList)
       (match fillL (placeOf P fs.toList) cs.toList (ps.toList.map fun p => (p.1, ev t p.2)) with
        | some l => K (.agg l.toArray)
        | none => False) False
     | _ => False
   | _, _ => XWp P (execOp (ev t) o) (nextV K)
 | .slice T x lo hi mx =>
   match P.underlying T, ev t x, mx with
   | some (.slice e), .slice a n c, none =>
     match bnd t lo 0, bnd t hi n with
     | some l, some r => leK lo.isNone 0 l (l ≤ r ∧ r ≤ c ∧ nz (lay1 P e) (K (.slice (slA a c l.toNat (lay1 P e)) (subN r.toNat l.toNat) (subN c l.toNat))))
     | _, _ => False
   | some .string, .string s, none =>
     match bnd t lo 0, bnd t hi s.size with
     | some l, some r => leK lo.isNone 0 l (l ≤ r ∧ r ≤ s.size ∧ K (.string (s.extract l.toNat r.toNat)))
     | _, _ => False
   | some (.slice e), .slice a n c, some mx =>
     match bnd t lo 0, bnd t hi n, bnd t (some mx) 0 with
     | some l, some r, some m => cond hi.isSome (leK lo.isNone 0 l (l ≤ r ∧ r ≤ m ∧ m ≤ c ∧ nz (lay1 P e) (K (.slice (slA a m.toNat l.toNat (lay1 P e)) (subN r.toNat l.toNat) (subN m.toNat l.toNat))))) False
     | _, _, _ => False
   | some (.pointer A), .pointer a, none =>
     match P.underlying A with
     | some (.array n e) =>
       match bnd t lo 0, bnd t hi n with
       | some l, some r => onPtr a fun b o => leK lo.isNone 0 l (l ≤ r ∧ r ≤ n ∧ nz (lay1 P e) (K (.slice (slA (some ⟨b, o, none⟩) n l.toNat (lay1 P e)) (subN r.toNat l.toNat) (subN n l.toNat))))
       | _, _ => False
     | _ => False
   | some (.array n e), .pointer a, none =>
     match bnd t lo 0, bnd t hi n with
     | some l, some r => onPtr a fun b o => leK lo.isNone 0 l (l ≤ r ∧ r ≤ n ∧ nz (lay1 P e) (K (.slice (slA (some ⟨b, o, none⟩) n l.toNat (lay1 P e)) (subN r.toNat l.toNat) (subN n l.toNat))))
     | _, _ => False
   | _, _, _ => False
 | _ => XWp P (execOp (ev t) o) (nextV K)
def zeroOf (P : Program) (t : TypeId) : Value := (((P.info? t).bind (·.zero))).getD undef
def lookK (P : Program) (T : TypeId) (m k : Value) (ok : Bool) (h : Heap) (K : Value → Prop) : Prop := PWp P (Instr.lookup T m k ok) h K
def lenMapK (h : Heap) (r : Option Nat) (K : Int → Prop) : Prop :=
 match r with
 | none => K 0
 | some b => ∃ es c, h[b]? = some (.map es c) ∧ K es.size
def readK (P : Program) (t : List Value) (o : Oper) (h : Heap) (K : Value → Prop) : Prop :=
 match o.op with
 | .load T a =>
   match ev t a with
   | .pointer a => loadK P T a h K
   | _ => False
 | .lookup T m k ok => lookK P T (ev t m) (ev t k) ok h fun v => exZ (zeroOf P o.type) fun v' => v = v' ∧ K v'
 | .call c =>
   match c.callee with
   | .builtin .len =>
     match c.args[0]?, c.argTypes[0]? with
     | some x, some T =>
       match P.underlying T, ev t x with
       | some .string, .string s => K (.int .i64 s.size)
       | some (.slice _), .slice _ n _ => K (.int .i64 n)
       | some (.map ..), .map r => lenMapK h r fun n => K (.int .i64 n)
       | _, _ => False
     | _, _ => False
   | _ => False
 | _ => False
abbrev Hints := List (Nat × List (Nat × Sh))
structure Hn where
 hs : Hints
 js : Hints
 rs : List (Nat × TypeId)
def rsOf : List (Nat × TypeId) → Operand → TypeId
 | (s, T) :: l, .tmp n => cond (Nat.beq s n) T (rsOf l (.tmp n))
 | _, _ => 0
def CallV (P : Program) (f : Value) (args : List Value) (h : Heap) (R : Value → Heap → Prop) : Prop :=
 match f with
 | .func (.func g) first captured => Run P g (first.toList ++ args ++ captured.toList) h R
 | _ => False
def nextK (P : Program) (K : Value → Heap → Prop) : Next → Heap → Prop
 | .value v, h => K v h
 | .skip, h => K undef h
 | .enter f args, h => Run P f args.toList h K
 | _, _ => False
def appK (P : Program) (ts : Array TypeId) (T : TypeId) (s x : Value) (h : Heap) (K : Value → Heap → Prop) : Prop := SWp P (Builtin.append_ ts T #[s, x]) h K
def copyK (P : Program) (ts : Array TypeId) (T : TypeId) (s x : Value) (h : Heap) (K : Value → Heap → Prop) : Prop := SWp P (Builtin.copy_ ts T #[s, x]) h K
def delK (P : Program) (ts : Array TypeId) (T : TypeId) (s x : Value) (h : Heap) (K : Value → Heap → Prop) : Prop := SWp P (Builtin.delete_ ts T #[s, x]) h K
def clearK (P : Program) (ts : Array TypeId) (T : TypeId) (x : Value) (h : Heap) (K : Value → Heap → Prop) : Prop := SWp P (Builtin.clear_ ts T #[x]) h K
def updK (P : Program) (T : TypeId) (m k v : Value) (h : Heap) (K : Heap → Prop) : Prop := SWp P (Instr.mapUpdate T m k v) h fun _ h' => K h'
def makeK (P : Program) (T : TypeId) (l c : Value) (h : Heap) (K : Value → Heap → Prop) : Prop := SWp P (Instr.makeSlice T l c) h K
def rangeK (P : Program) (T : TypeId) (x : Value) (h : Heap) (K : Value → Heap → Prop) : Prop := SWp P (Instr.range T x) h K
def nextM (P : Program) (it : Value) (h : Heap) (E : Heap → Prop) (K : Value → Value → Heap → Prop) : Prop :=
 SWp P (Instr.next it false 0) h fun v h' => (v = .tuple #[.bool false] ∧ E h') ∨ ∃ k x : Value, v = .tuple #[.bool true, k, x] ∧ K k x h'
def nextS (P : Program) (it : Value) (h : Heap) (E : Heap → Prop) (K : Int → Int → Heap → Prop) : Prop :=
 SWp P (Instr.next it true 0) h fun v h' => (v = .tuple #[.bool false] ∧ E h') ∨ ∃ i c : Int, v = .tuple #[.bool true, .int .i64 i, .int .i32 c] ∧ K i c h'
def entryM (P : Program) (it : Value) (h : Heap) (K : Value → Heap → Prop) : Prop := SWp P (Instr.entry it) h K
def entryK (P : Program) (T : TypeId) (it : Value) (h : Heap) (K : Value → Heap → Prop) : Prop :=
 match P.underlying T with
 | some (.map k e) => entryM P it h fun v h' => exE (zeroOf P k) fun a => exE (zeroOf P e) fun b => v = .tuple #[a, b] ∧ K (.tuple #[a, b]) h'
 | _ => False
def mapEntryK (P : Program) (T : TypeId) (m k : Value) (h : Heap) (K : Value → Heap → Prop) : Prop := SWp P (Instr.mapEntry T m k) h K
def entryStK (P : Program) (T : TypeId) (m s v : Value) (h : Heap) (K : Heap → Prop) : Prop := SWp P (Instr.entryStore T m s v) h fun _ h' => K h'
def typed (P : Program) (T : TypeId) (K : Value → Heap → Prop) (v : Value) (h : Heap) : Prop := exZ (zeroOf P T) fun v' => v = v' ∧ K v' h
def effK (P : Program) (H : Hn) (t : List Value) (o : Oper) (h : Heap) (K : Value → Heap → Prop) : Prop :=
 match o.op with
 | .store T a x =>
   match ev t a with
   | .pointer a => storeK P T a (ev t x) h (K undef)
   | _ => False
 | .box T x => newB h (.cells (ev t x).cells T) fun b h' => K (.pointer (some ⟨b, 0, none⟩)) h'
 | .alloc T => match (P.info? T).bind (·.zero) with
   | some z => newB h (.cells z.cells T) fun b h' => K (.pointer (some ⟨b, 0, none⟩)) h'
   | none => False
 | .buildSlice T n ps =>
   match P.underlying T with
   | some (.slice e) =>
     match P.info? e with
     | some i =>
       match i.zero with
       | some z => cond (Nat.ble (n * i.size) 16777216 && !Nat.beq (n * i.size) 0)
         (match fillL (fun j => some (j * i.size, i.size)) ((List.range (n * i.size)).map fun j => z.cells[j % z.cells.size]!) (ps.toList.map fun p => (p.1, ev t p.2)) with
         | some l => newB h (.cells l.toArray e) fun b h' => K (.slice (some ⟨b, 0, none⟩) n n) h'
         | none => False) False
       | none => False
     | none => False
   | _ => False
 | .makeMap _ none => newB h (.map #[] 0) fun b h' => K (.map (some b)) h'
 | .mapUpdate T m k v => updK P T (ev t m) (ev t k) (ev t v) h (K undef)
 | .makeSlice T l c => makeK P T (ev t l) (ev t c) h (typed P o.type K)
 | .range T x => rangeK P T (ev t x) h K
 | .mapEntry T m k => mapEntryK P T (ev t m) (ev t k) h K
 | .entryStore T m s v => entryStK P T (ev t m) (ev t s) (ev t v) h (K undef)
 | .call c =>
   match c.callee with
   | .value f => CallV P (ev t f) (c.args.toList.map (ev t)) h (typed P o.type K)
   | .builtin .append => match c.args.toList with
     | [s, x] => appK P c.argTypes o.type (ev t s) (ev t x) h (typed P o.type K)
     | _ => False
   | .builtin .copy => match c.args.toList with
     | [s, x] => copyK P c.argTypes o.type (ev t s) (ev t x) h (typed P o.type K)
     | _ => False
   | .builtin .delete => match c.args.toList with
     | [s, x] => delK P c.argTypes o.type (ev t s) (ev t x) h K
     | _ => False
   | .builtin .clear => match c.args.toList with
     | [x] => clearK P c.argTypes o.type (ev t x) h K
     | _ => False
   | _ => SWp P (execOp (ev t) o) h (nextK P K)
 | .next it false => nextM P (ev t it) h (fun h' => K (.tuple #[.bool false]) h') (fun a b h' => K (.tuple #[.bool true, a, b]) h')
 | .next it true => nextS P (ev t it) h (fun h' => K (.tuple #[.bool false]) h') (fun i c h' => K (.tuple #[.bool true, .int .i64 i, .int .i32 c]) h')
 | .entry it => entryK P (rsOf H.rs it) (ev t it) h K
 | .panic _ => False
 | .makeInterface _ _ => False
 | _ => SWp P (execOp (ev t) o) h (nextK P K)
def guardSlot (ops : List Oper) (o : Oper) : Option (Option Nat × Bool) :=
 match o.guard with
 | none => none
 | some (j, want) => some ((ops[j]?).bind (·.dst), want)
def guarded (ops : List Oper) (o : Oper) (t : List Value) (A B : List Value → Prop) : Prop :=
 match guardSlot ops o with
 | none => A t
 | some (none, _) => B t
 | some (some d, want) =>
   match lget t d with
   | .bool c => cond c (cond want (A (lset t d (.bool true))) (B (lset t d (.bool true)))) (cond want (B (lset t d (.bool false))) (A (lset t d (.bool false))))
   | _ => B t
def readyL (ops : List Oper) (done : List Nat) (i : Nat) : Bool :=
 !done.contains i && match ops[i]? with
  | some o => o.after.toList.all fun e => !Region.binds .any e || done.contains e.on
  | none => false
def nextQ (ops : List Oper) (done : List Nat) : Option Nat :=
 (List.range ops.length).find? fun i => readyL ops done i && (match ops[i]? with | some o => pureOp o || readOp o | none => false)
def readies (ops : List Oper) (done : List Nat) : List Nat := (List.range ops.length).filter (readyL ops done)
def conjL : List Nat → (Nat → Prop) → Prop
 | [], _ => False
 | [i], f => f i
 | i :: l, f => f i ∧ conjL l f
def waits (ops : List Oper) : Nat → Nat → Nat → Bool
 | 0, _, _ => false
 | n + 1, i, j =>
   match ops[j]? with
   | some o => o.after.toList.any fun e => Region.binds .any e && (e.on == i || waits ops n i e.on)
   | none => false
def again (P : Program) (ops : List Oper) (e : Nat) (h : Heap) : List (Nat × Oper × List Value × Value) → Prop → Prop
 | [], K => K
 | (i, o, t, v) :: l, K => cond (waits ops ops.length i e) (again P ops e h l K) (readK P t o h (fun v' => v' = v) ∧ again P ops e h l K)
def drawB (ops : List Oper) : Nat → List Nat → Bool
 | 0, done => (List.range ops.length).all fun i => done.contains i
 | n + 1, done =>
   match nextQ ops done with
   | some i =>
     match ops[i]? with
     | none => false
     | some o =>
       ((List.range ops.length).all fun j => j == i || done.contains j || match ops[j]? with
        | some oj => oj.after.toList.any (fun e => Region.binds .any e && e.on == i) || o.apart ops.toArray oj
        | none => true) && drawB ops n (i :: done)
   | none => (readies ops done).all fun i => (match ops[i]? with | some o => !(pureOp o || readOp o) | none => false) && drawB ops n (i :: done)
inductive Ex where
 | nrm
 | ext (id : Nat)
 | ret
def InvT : List Sh → Type
 | [] => Heap → Prop
 | .i _ :: l => Int → InvT l
 | .b :: l => Bool → InvT l
 | .s :: l => ByteArray → InvT l
 | .p :: l => Option Addr → InvT l
 | .sl :: l => Option Addr → Nat → Nat → InvT l
 | .m :: l => Option Nat → InvT l
 | .v :: l => Value → InvT l
def app : (l : List Sh) → InvT l → List Value → Heap → Prop
 | [], I, [], h => I h
 | .i k :: l, I, .int k' n :: vs, h => kindEq k k' (app l (I n) vs h)
 | .b :: l, I, .bool c :: vs, h => app l (I c) vs h
 | .s :: l, I, .string s :: vs, h => app l (I s) vs h
 | .p :: l, I, .pointer a :: vs, h => app l (I a) vs h
 | .sl :: l, I, .slice a n c :: vs, h => app l (I a n c) vs h
 | .m :: l, I, .map r :: vs, h => app l (I r) vs h
 | .v :: l, I, v :: vs, h => app l (I v) vs h
 | _, _, _, _ => False
def mods : Code → List Nat
 | .region _ ops _ => ops.toList.filterMap (·.dst) ++ ops.toList.filterMap fun o => match o.guard with | some (j, _) => (ops.toList[j]?).bind (·.dst) | none => none
 | .seq x y => mods x ++ mods y
 | .cond _ x y => mods x ++ mods y
 | .block _ c => mods c
 | .loop c => mods c
 | .scope c => mods c
 | _ => []
def setAll : List Value → List Nat → List Value → List Value
 | t, i :: is, v :: vs => setAll (lset t i v) is vs
 | t, _, _ => t
def firstRegion : Code → Nat
 | .region id _ _ => id
 | .seq x _ => firstRegion x
 | .cond _ x _ => firstRegion x
 | .block _ c => firstRegion c
 | .loop c => firstRegion c
 | .scope c => firstRegion c
 | _ => 0
def one : List Value → Value
 | [v] => v
 | vs => .tuple vs.toArray
end Go.Proofs.YtaogfopaalancaaDoor
/- The engine, part c: each operation's rule is sound. -/
namespace Go.Proofs.YtaogfopaalancaaDoor
open Go
section
variable {P : Program}
theorem XWp.sound {α : Type} {s : Sem α} : ∀ {K : α → Prop}, XWp P s K → ∃ a, K a ∧ ∀ w, s.run P w = .ok a w := by
 induction s with
 | pure a => intro K h; exact ⟨a, h, fun _ => rfl⟩
 | program k ih => intro K h; exact ih P h
 | mark m k ih => intro K h; exact ih h
 | _ => intro K h; exact h.elim
theorem onPtr_spec {a : Option Addr} {K : Nat → Nat → Prop} (h : onPtr a K) : ∃ b o, a = some ⟨b, o, none⟩ ∧ K b o := by
 unfold onPtr at h
 split at h
 · exact ⟨_, _, rfl, h⟩
 · exact h.elim
theorem cond_spec {c : Bool} {A : Prop} (h : cond c A False) : c = true ∧ A := by
 cases c
 · exact h.elim
 · exact ⟨rfl, h⟩
theorem nz_spec {n : Nat} {A : Prop} (h : nz n A) : n ≠ 0 ∧ A := by
 unfold nz at h
 cases hb : Nat.beq n 0 with
 | true => rw [hb] at h; exact h.elim
 | false => rw [hb] at h; exact ⟨fun hn => by subst hn; simp at hb, h⟩
theorem kindNo_inj {k k' : IntKind} (h : kindNo k = kindNo k') : k = k' := by
 cases k <;> cases k' <;> first | rfl | (simp [kindNo] at h)
theorem kindEq_spec {k k' : IntKind} {A : Prop} (h : kindEq k k' A) : k = k' ∧ A := by
 obtain ⟨h1, h2⟩ := cond_spec h
 exact ⟨kindNo_inj (Nat.eq_of_beq_eq_true h1), h2⟩
theorem subN_eq (a b : Nat) : subN a b = a - b := by
 unfold subN
 cases h : Nat.beq b 0 with
 | true => have := Nat.eq_of_beq_eq_true h; subst this; rfl
 | false => rfl
theorem slA_eq (a : Option Addr) (c l s : Nat) (hs : s ≠ 0) : slA a c l s = if c = l then a else a.map (·.add (l * s)) := by
 unfold slA
 cases h : Nat.beq l 0 with
 | true =>
   have := Nat.eq_of_beq_eq_true h; subst this
   cases a <;> simp [Addr.add]
 | false =>
   have hl : l ≠ 0 := fun hn => by subst hn; simp at h
   simp only [cond_false]
   split
   · rfl
   · cases a with
     | none => rfl
     | some x =>
       simp only [Option.map_some, Addr.add]
       split
       · rename_i h2
         rcases Nat.mul_eq_zero.1 h2 with h3 | h3
         · exact absurd h3 hl
         · exact absurd h3 hs
       · rfl
theorem leK_spec {lo : Option Operand} {t : List Value} {l : Int} {K : Prop} (hl : bnd t lo 0 = some l) (h : leK lo.isNone 0 l K) : 0 ≤ l ∧ K := by
 cases lo with
 | none => simp [bnd] at hl; subst hl; exact ⟨Int.le_refl 0, h⟩
 | some x => exact h
theorem addO_eq (o n : Nat) : addO o n = o + n := by
 unfold addO
 cases h : Nat.beq n 0 with
 | true => have := Nat.eq_of_beq_eq_true h; subst this; rfl
 | false => rfl
theorem add_plain (b o n : Nat) : (⟨b, o, none⟩ : Addr).add n = ⟨b, o + n, none⟩ := by
 unfold Addr.add
 split
 · rename_i h; subst h; rfl
 · rfl
def YP (P : Program) (t : List Value) (o : Oper) (v : Value) : Prop := ∀ w, (execOp (ev t) o).run P w = .ok (.value v) w
theorem nextV_spec {K : Value → Prop} {n : Next} (h : nextV K n) : ∃ v, n = .value v ∧ K v := by
 cases n <;> simp only [nextV] at h
 exact ⟨_, rfl, h⟩
theorem pure_gen {t : List Value} {o : Oper} {K : Value → Prop} (h : XWp P (execOp (ev t) o) (nextV K)) : ∃ v, K v ∧ YP P t o v := by
 obtain ⟨n, hn, hr⟩ := XWp.sound h
 obtain ⟨v, rfl, hv⟩ := nextV_spec hn
 exact ⟨v, hv, hr⟩
theorem int_run {op : BinOp} {k : IntKind} {x y : Int} {K : Value → Prop} (T : TypeId) (hop : op ≠ .shl ∧ op ≠ .shr) (h : intK op k x y K) :
 ∃ v, K v ∧ ∀ w, (binOp op T (.int k x) (.int k y)).run P w = .ok v w := by
 cases op <;> simp only [intK] at h <;>
  first
   | exact absurd rfl hop.1
   | exact absurd rfl hop.2
   | (refine ⟨_, h, fun w => ?_⟩; simp [binOp, Op.intArith, Op.intCmp, Op.intBits]; done)
   | (refine ⟨_, h.2, fun w => ?_⟩; simp [binOp, Op.intDiv, h.1]; done)
   | (refine ⟨_, h, fun w => ?_⟩; rfl)
theorem str_run {op : BinOp} {x y : ByteArray} {K : Value → Prop} (T : TypeId) (h : strK op x y K) :
 ∃ v, K v ∧ ∀ w, (binOp op T (.string x) (.string y)).run P w = .ok v w := by
 cases op <;> simp only [strK] at h <;>
  first
   | exact h.elim
   | (refine ⟨_, h, fun w => ?_⟩; simp [binOp, Op.stringOp]; done)
   | (refine ⟨_, h.2, fun w => ?_⟩; have := h.1; have hm : IntKind.i64.max = 9223372036854775807 := (by rfl); simp only [binOp, Op.stringOp]; rw [if_neg (by rw [hm]; omega)]; rfl)
theorem eqGuard_plain {op : BinOp} {T : TypeId} {x y : Operand} {a b : Value} (ha : ∀ cs, a ≠ .agg cs) (hn : a ≠ .nilIface) (w : World) : (eqGuard op T x y a b).run P w = .ok () w := by
 unfold eqGuard
 cases op <;> first | rfl | (cases a <;> first | rfl | exact absurd rfl (ha _) | exact absurd rfl hn)
theorem nil_run {op : BinOp} {T : TypeId} {x y : Value} {z : Bool} {K : Value → Prop} (hsh : ∀ w, (Op.equal T x y).run P w = .ok z w)
 (hx : (∃ a, x = .pointer a) ∨ (∃ a n c, x = .slice a n c) ∨ (∃ a, x = .map a) ∨ (∃ a, x = .bool a) ∨ (∃ a, x = .agg a))
 (hy : (∃ a, y = .pointer a) ∨ (∃ a n c, y = .slice a n c) ∨ (∃ a, y = .map a) ∨ (∃ a, y = .bool a) ∨ (∃ a, y = .agg a)) (h : nilEq op z K) :
 ∃ v, K v ∧ ∀ w, (binOp op T x y).run P w = .ok v w := by
 cases op <;> simp only [nilEq] at h
 case eql =>
  refine ⟨_, h, fun w => ?_⟩
  rcases hx with ⟨a, rfl⟩ | ⟨a, n, c, rfl⟩ | ⟨a, rfl⟩ | ⟨a, rfl⟩ | ⟨a, rfl⟩ <;> rcases hy with ⟨b, rfl⟩ | ⟨b, n', c', rfl⟩ | ⟨b, rfl⟩ | ⟨b, rfl⟩ | ⟨b, rfl⟩ <;> simp [binOp, hsh]
 case neq =>
  refine ⟨_, h, fun w => ?_⟩
  rcases hx with ⟨a, rfl⟩ | ⟨a, n, c, rfl⟩ | ⟨a, rfl⟩ | ⟨a, rfl⟩ | ⟨a, rfl⟩ <;> rcases hy with ⟨b, rfl⟩ | ⟨b, n', c', rfl⟩ | ⟨b, rfl⟩ | ⟨b, rfl⟩ | ⟨b, rfl⟩ <;> simp [binOp, hsh]
theorem run_isAgg_plain {T : TypeId} {d : TypeDesc} (h : P.underlying T = some d) (hd : (match d with | .struct _ | .array _ _ => true | _ => false) = false) (w : World) :
 (isAgg T).run P w = .ok false w := by
 simp only [isAgg, Sem.run_bind, run_underlying h, Result.andThen_ok]
 cases d <;> simp at hd <;> rfl
theorem run_part_flat {T : TypeId} (hT : (match P.underlying T with | some .bool | some (.int _) | some .string => true | _ => false) = true) {xs : Array Value} {i : Nat} {v : Value}
 (hv : xs[i]? = some v) (w : World) : (part T xs i).run P w = .ok v w := by
 have h1 : (isAgg T).run P w = .ok false w := by
  cases hu : P.underlying T with
  | none => simp [hu] at hT
  | some d => exact run_isAgg_plain hu (by cases d <;> simp [hu] at hT <;> rfl) w
 simp only [part, Sem.run_bind, h1, Result.andThen_ok, Bool.false_eq_true, if_false, hv]
 rfl
theorem run_eqV {T : TypeId} {a b : Value} {c : Bool} (d : Nat) (hT : (match P.underlying T with | some .bool | some (.int _) | some .string => true | _ => false) = true)
 (hw : (match P.underlying T, a with | some .bool, .bool _ => true | some (.int _), .int _ _ => true | some .string, .string _ => true | _, _ => false) = true) (h : eqV a b = some c) (w : World) :
 (Op.equalIn (d + 1) T a b).run P w = .ok c w := by
 cases hu : P.underlying T with
 | none => simp [hu] at hT
 | some e =>
   cases a <;> cases b <;> simp only [eqV] at h <;> try cases h
   · cases e <;> simp [hu] at hw
     exact run_equalIn_bool' w d T _ _ hu
   · rename_i k x k' y
     cases e <;> simp [hu] at hw
     cases hk : Nat.beq (kindNo k) (kindNo k') with
     | false => rw [hk] at h; cases h
     | true =>
       rw [hk] at h
       obtain rfl := kindNo_inj (Nat.eq_of_beq_eq_true hk)
       cases h; exact run_equalIn_int w d T _ _ _ _ hu
   · cases e <;> simp [hu] at hw
     exact run_equalIn_string w d T _ _ hu
theorem run_eqFields (d : Nat) (w : World) : ∀ (fs : List Field) (i : Nat) (xs ys : Array Value) (l m : List Value) (c : Bool), flat P fs i = true → fits P fs l = true →
 (∀ j v, l[j]? = some v → xs[i + j]? = some v) → (∀ j v, m[j]? = some v → ys[i + j]? = some v) → l.length = fs.length → m.length = fs.length →
 eqL l m = some c → (Op.eqFields (d + 1) xs ys fs).run P w = .ok c w
 | [], i, xs, ys, l, m, c, _, _, _, _, hl, hm, he => by
   cases l with
   | cons a l => simp at hl
   | nil => cases m with
     | cons a l => simp at hm
     | nil => simp only [eqL, Option.some.injEq] at he; subst he; simp [Op.eqFields]
 | f :: fs, i, xs, ys, l, m, c, hf, hk, h1, h2, hl, hm, he => by
   cases l with
   | nil => simp at hl
   | cons a l => cases m with
     | nil => simp at hm
     | cons b m =>
       simp only [flat, Bool.and_eq_true, beq_iff_eq, bne_iff_ne] at hf
       simp only [fits, Bool.and_eq_true] at hk
       obtain ⟨⟨⟨ho, hn⟩, hT⟩, hr⟩ := hf
       simp only [eqL] at he
       cases hab : eqV a b with
       | none => simp [hab] at he
       | some x => cases hlm : eqL l m with
         | none => simp [hab, hlm] at he
         | some y =>
           simp only [hab, hlm, Option.some.injEq] at he
           have hx := run_eqV (P := P) d hT hk.1 hab w
           have pa := run_part_flat (P := P) hT (h1 0 a rfl) w
           have pb := run_part_flat (P := P) hT (h2 0 b rfl) w
           simp only [Nat.add_zero] at pa pb
           have ih := run_eqFields d w fs (i + 1) xs ys l m y hr hk.2 (fun j v hv => by have := h1 (j + 1) v (by simpa using hv); rw [← this]; congr 1; omega)
            (fun j v hv => by have := h2 (j + 1) v (by simpa using hv); rw [← this]; congr 1; omega) (by simpa using hl) (by simpa using hm) hlm
           simp only [Op.eqFields, if_pos hn, Sem.run_bind, ho, pa, pb, hx, Result.andThen_ok, Sem.run_ite]
           cases x
           · simp only [Bool.not_false, if_true, Sem.run_pure]; subst he; rfl
           · simp only [Bool.not_true, Bool.false_eq_true, if_false]; subst he; rw [ih]; rfl
theorem run_equal_flat {T : TypeId} {fs : Array Field} {xs ys : Array Value} {c : Bool} (hu : P.underlying T = some (.struct fs)) (hp : P.stoodInHeld T = false) (hf : flat P fs.toList 0 = true)
 (hk : fits P fs.toList xs.toList = true) (hl : xs.size = fs.size) (hm : ys.size = fs.size) (he : eqL xs.toList ys.toList = some c) (w : World) : (Op.equal T (.agg xs) (.agg ys)).run P w = .ok c w := by
 have hfo : P.fieldsOf T = fs := by simp [Program.fieldsOf, hu]
 unfold Op.equal Op.maxDepth
 rw [show (10000 : Nat) = 9998 + 1 + 1 from rfl, run_equalIn_struct w (9998 + 1) T xs ys (by rw [hfo]; exact hu) hp, hfo]
 refine run_eqFields 9998 w fs.toList 0 xs ys xs.toList ys.toList c hf hk ?_ ?_ (by simpa using hl) (by simpa using hm) he
 · intro j v hv; simpa using hv
 · intro j v hv; simpa using hv
theorem run_eqPtr (d : Nat) {T e : TypeId} (hu : P.underlying T = some (.pointer e)) (p : Option Addr) (w : World) : (Op.equalIn (d + 1) T (.pointer p) (.pointer none)).run P w = .ok p.isNone w := by
 simp only [Op.equalIn, Sem.run_bind, run_underlying hu, Result.andThen_ok]
 cases p <;> rfl
theorem run_eqSl (d : Nat) {T e : TypeId} (hu : P.underlying T = some (.slice e)) (p : Option Addr) (n c n' c' : Nat) (w : World) : (Op.equalIn (d + 1) T (.slice p n c) (.slice none n' c')).run P w = .ok p.isNone w := by
 simp only [Op.equalIn, Sem.run_bind, run_underlying hu, Result.andThen_ok]
 cases p <;> rfl
theorem run_eqMap (d : Nat) {T k e : TypeId} (hu : P.underlying T = some (.map k e)) (p : Option Nat) (w : World) : (Op.equalIn (d + 1) T (.map p) (.map none)).run P w = .ok p.isNone w := by
 simp only [Op.equalIn, Sem.run_bind, run_underlying hu, Result.andThen_ok]
 cases p <;> rfl
theorem bin_run {op : BinOp} {T : TypeId} {x y : Operand} {a b : Value} {K : Value → Prop} (h : binK P op T a b K) :
 ∃ v, K v ∧ ∀ w, (do eqGuard op T x y a b; binOp op T a b : Sem Value).run P w = .ok v w := by
 unfold binK at h
 split at h
 · rename_i k p k' q
   have hg : ∀ w, (eqGuard op T x y (.int k p) (.int k' q)).run P w = .ok () w := eqGuard_plain (by simp) (by simp)
   split at h
   · obtain ⟨h0, hK⟩ := h
     refine ⟨_, hK, fun w => ?_⟩
     simp only [Sem.run_bind, hg, Result.andThen_ok]
     simp [binOp, Op.shift, show ¬ q < 0 by omega]
   · obtain ⟨h0, hK⟩ := h
     refine ⟨_, hK, fun w => ?_⟩
     simp only [Sem.run_bind, hg, Result.andThen_ok]
     simp [binOp, Op.shift, show ¬ q < 0 by omega]
   · rename_i n1 n2
     obtain ⟨hk, h2⟩ := kindEq_spec h
     · subst hk
       obtain ⟨v, hv, hr⟩ := int_run (P := P) T ⟨n1, n2⟩ h2
       exact ⟨v, hv, fun w => by simp only [Sem.run_bind, hg, Result.andThen_ok, hr]⟩
 · obtain ⟨v, hv, hr⟩ := str_run (P := P) T h
   exact ⟨v, hv, fun w => by simp only [Sem.run_bind, eqGuard_plain (P := P) (a := .string _) (by simp) (by simp), Result.andThen_ok, hr]⟩
 · split at h
   · rename_i hu
     obtain ⟨v, hv, hr⟩ := nil_run (P := P) (T := T) (fun w => run_equalIn_bool' w 9999 T _ _ hu) (.inr (.inr (.inr (.inl ⟨_, rfl⟩)))) (.inr (.inr (.inr (.inl ⟨_, rfl⟩)))) h
     exact ⟨v, hv, fun w => by simp only [Sem.run_bind, eqGuard_plain (P := P) (a := .bool _) (by simp) (by simp), Result.andThen_ok, hr]⟩
   · exact h.elim
 · rename_i p
   split at h
   · rename_i hu
     obtain ⟨v, hv, hr⟩ := nil_run (P := P) (T := T) (x := .pointer p) (y := .pointer none) (fun w => run_eqPtr 9999 hu p w) (.inl ⟨_, rfl⟩) (.inl ⟨_, rfl⟩) h
     exact ⟨v, hv, fun w => by simp only [Sem.run_bind, eqGuard_plain (P := P) (a := .pointer _) (by simp) (by simp), Result.andThen_ok, hr]⟩
   · exact h.elim
 · rename_i p n c n' c'
   split at h
   · rename_i hu
     obtain ⟨v, hv, hr⟩ := nil_run (P := P) (T := T) (x := .slice p n c) (y := .slice none n' c') (fun w => run_eqSl 9999 hu p n c n' c' w) (.inr (.inl ⟨_, _, _, rfl⟩)) (.inr (.inl ⟨_, _, _, rfl⟩)) h
     exact ⟨v, hv, fun w => by simp only [Sem.run_bind, eqGuard_plain (P := P) (a := .slice ..) (by simp) (by simp), Result.andThen_ok, hr]⟩
   · exact h.elim
 · rename_i p
   split at h
   · rename_i hu
     obtain ⟨v, hv, hr⟩ := nil_run (P := P) (T := T) (x := .map p) (y := .map none) (fun w => run_eqMap 9999 hu p w) (.inr (.inr (.inl ⟨_, rfl⟩))) (.inr (.inr (.inl ⟨_, rfl⟩))) h
     exact ⟨v, hv, fun w => by simp only [Sem.run_bind, eqGuard_plain (P := P) (a := .map _) (by simp) (by simp), Result.andThen_ok, hr]⟩
   · exact h.elim
 · rename_i xs ys
   split at h
   · rename_i fs hu
     obtain ⟨hc, h⟩ := cond_spec h
     · obtain ⟨hc2, h⟩ := cond_spec h
       simp only [Bool.and_eq_true, Bool.not_eq_true'] at hc hc2
       obtain ⟨⟨hf, hp⟩, hq⟩ := hc
       obtain ⟨⟨hk, hl⟩, hm⟩ := hc2
       have hl : xs.size = fs.size := by simpa using Nat.eq_of_beq_eq_true hl
       have hm : ys.size = fs.size := by simpa using Nat.eq_of_beq_eq_true hm
       split at h
       · rename_i c he
         have hg : ∀ w, (eqGuard op T x y (.agg xs) (.agg ys)).run P w = .ok () w := by
          intro w
          unfold eqGuard
          cases op <;> first | rfl | (simp [hq]; done) | (simp [hq]; rfl)
         obtain ⟨v, hv, hr⟩ := nil_run (P := P) (T := T) (x := .agg xs) (y := .agg ys) (run_equal_flat hu hp hf hk hl hm he) (.inr (.inr (.inr (.inr ⟨_, rfl⟩)))) (.inr (.inr (.inr (.inr ⟨_, rfl⟩)))) h
         exact ⟨v, hv, fun w => by simp only [Sem.run_bind, hg, Result.andThen_ok, hr]⟩
       · exact h.elim
   · exact h.elim
 · exact h.elim
theorem run_sizeOf1 {T : TypeId} {i : TypeInfo} (h : P.info? T = some i) (w : World) : (sizeOf T).run P w = .ok i.size w := by
 simp [sizeOf, run_typeInfo w h]
theorem lay1_some {T : TypeId} (h : lay1 P T ≠ 0) : ∃ i, P.info? T = some i ∧ i.size = lay1 P T := by
 unfold lay1 at *
 cases hi : P.info? T with
 | none => simp [hi] at h
 | some i => exact ⟨i, rfl, by simp⟩
theorem run_indexAt {T e : TypeId} {a : Option Addr} {n c b o : Nat} {k : IntKind} {z : Int} (hu : P.underlying T = some (.slice e)) (h0 : 0 ≤ z) (h1 : z < n) (ha : a = some ⟨b, o, none⟩) (hs : lay1 P e ≠ 0) (w : World) :
 (Instr.indexAt T (.slice a n c) (.int k z)).run P w = .ok (.pointer (some ⟨b, o + z.toNat * lay1 P e, none⟩)) w := by
 subst ha
 obtain ⟨i, hi, his⟩ := lay1_some hs
 simp [Instr.indexAt, asIntOf, run_underlying hu, run_sizeOf1 hi, his, h0, h1, add_plain]
theorem run_indexAt_arr {T e : TypeId} {a : Option Addr} {n b o : Nat} {k : IntKind} {z : Int} (hu : P.underlying T = some (.array n e)) (h0 : 0 ≤ z) (h1 : z < n) (ha : a = some ⟨b, o, none⟩) (hs : lay1 P e ≠ 0) (w : World) :
 (Instr.indexAt T (.pointer a) (.int k z)).run P w = .ok (.pointer (some ⟨b, o + z.toNat * lay1 P e, none⟩)) w := by
 subst ha
 obtain ⟨i, hi, his⟩ := lay1_some hs
 simp [Instr.indexAt, asIntOf, Instr.sureAddr, run_underlying hu, run_sizeOf1 hi, his, h0, h1, add_plain]
theorem run_bound {v : Value} {k : IntKind} {i : Int} (hv : v = .int k i) {y : Nat} (h0 : 0 ≤ i) (h1 : i ≤ y) (code : BoundsCode) (w : World) : (Instr.sliceBound v y code).run P w = .ok i.toNat w := by
 subst hv
 simp [Instr.sliceBound, asIntOf, h0, h1]
theorem run_bounds {t : List Value} {lo hi : Option Operand} {n c : Nat} {l r : Int} (sl : Bool) (hl : bnd t lo 0 = some l) (hr : bnd t hi n = some r) (h0 : 0 ≤ l) (h1 : l ≤ r) (h2 : r ≤ c) (w : World) :
 (Instr.sliceBounds sl n c (lo.map (ev t)) (hi.map (ev t)) none).run P w = .ok (l.toNat, r.toNat, c) w := by
 have H : ∀ (x : Option Operand) (d : Int) (i : Int), bnd t x d = some i → (x = none ∧ i = d) ∨ ∃ o k, x = some o ∧ ev t o = .int k i := by
  intro x d i h
  cases x with
  | none => simp [bnd] at h; exact .inl ⟨rfl, h.symm⟩
  | some o =>
    simp only [bnd] at h
    split at h
    · rename_i k z hz; simp at h; subst h; exact .inr ⟨o, k, rfl, hz⟩
    · cases h
 rcases H _ _ _ hl with ⟨rfl, rfl⟩ | ⟨ol, kl, rfl, hel⟩ <;> rcases H _ _ _ hr with ⟨rfl, rfl⟩ | ⟨oh, kh, rfl, heh⟩
 · simp [Instr.sliceBounds]
 · simp [Instr.sliceBounds, run_bound (P := P) heh (show 0 ≤ r by omega) h2]
 · simp [Instr.sliceBounds, run_bound (P := P) hel h0 (show l ≤ (n : Nat) by omega)]
 · simp [Instr.sliceBounds, run_bound (P := P) heh (show 0 ≤ r by omega) h2, run_bound (P := P) hel h0 (show l ≤ (r.toNat : Nat) by omega)]
theorem run_bounds3 {t : List Value} {lo hi : Option Operand} {mx : Operand} {n c : Nat} {l r m : Int} (sl : Bool) (hh : hi.isSome = true) (hl : bnd t lo 0 = some l) (hr : bnd t hi n = some r) (hm : bnd t (some mx) 0 = some m) (h0 : 0 ≤ l) (h1 : l ≤ r) (h2 : r ≤ m) (h3 : m ≤ c) (w : World) :
 (Instr.sliceBounds sl n c (lo.map (ev t)) (hi.map (ev t)) (some (ev t mx))).run P w = .ok (l.toNat, r.toNat, m.toNat) w := by
 have H : ∀ (x : Option Operand) (d : Int) (i : Int), bnd t x d = some i → (x = none ∧ i = d) ∨ ∃ o k, x = some o ∧ ev t o = .int k i := by
  intro x d i h
  cases x with
  | none => simp [bnd] at h; exact .inl ⟨rfl, h.symm⟩
  | some o =>
    simp only [bnd] at h
    split at h
    · rename_i k z hz; simp at h; subst h; exact .inr ⟨o, k, rfl, hz⟩
    · cases h
 obtain ⟨hN, -⟩ | ⟨om, km, hom, hem⟩ := H _ _ _ hm
 · cases hN
 cases hom
 rcases H _ _ _ hl with ⟨rfl, rfl⟩ | ⟨ol, kl, rfl, hel⟩ <;> rcases H _ _ _ hr with ⟨rfl, rfl⟩ | ⟨oh, kh, rfl, heh⟩
 · simp at hh
 · simp [Instr.sliceBounds, run_bound (P := P) hem (show 0 ≤ m by omega) h3, run_bound (P := P) heh (show 0 ≤ r by omega) (show r ≤ (m.toNat : Nat) by omega)]
 · simp at hh
 · simp [Instr.sliceBounds, run_bound (P := P) hem (show 0 ≤ m by omega) h3, run_bound (P := P) heh (show 0 ≤ r by omega) (show r ≤ (m.toNat : Nat) by omega), run_bound (P := P) hel h0 (show l ≤ (r.toNat : Nat) by omega)]
theorem splice_nil (l : List Value) (o : Nat) : splice l o [] = l := by cases l <;> cases o <;> rfl
theorem splice_cons : ∀ (l : List Value) (o : Nat) (v : Value) (vs : List Value), o < l.length → splice l o (v :: vs) = splice (l.set o v) (o + 1) vs
 | [], _, _, _, h => by simp at h
 | x :: l, 0, v, [], _ => by simp [splice, splice_nil]
 | x :: l, 0, v, u :: vs, _ => by simp [splice]
 | x :: l, o + 1, v, [], h => by
   simp only [splice, List.set_cons_succ]
   rw [splice_cons l o v [] (by simpa using h)]
   simp [splice_nil]
 | x :: l, o + 1, v, u :: vs, h => by
   simp only [splice, List.set_cons_succ]
   rw [splice_cons l o v (u :: vs) (by simpa using h)]
theorem splice_length : ∀ (l : List Value) (o : Nat) (vs : List Value), (splice l o vs).length = l.length
 | l, o, [] => by rw [splice_nil]
 | [], o, v :: vs => by simp [splice]
 | x :: l, 0, v :: vs => by simp [splice, splice_length l 0 vs]
 | x :: l, o + 1, v :: vs => by simp [splice, splice_length l o (v :: vs)]
theorem fold_splice : ∀ (vs : List Value) (l : List Value) (o k : Nat), o + k + vs.length ≤ l.length →
 (vs.zipIdx k).foldl (fun (cs : Array Value) (x : Value × Nat) => cs.setIfInBounds (o + x.2) x.1) l.toArray = (splice l (o + k) vs).toArray
 | [], l, o, k, _ => by simp [splice_nil]
 | v :: vs, l, o, k, h => by
   simp only [List.length_cons] at h
   rw [List.zipIdx_cons, List.foldl_cons, List.setIfInBounds_toArray, fold_splice vs _ o (k + 1) (by simp; omega), splice_cons _ _ _ _ (by omega)]
   rfl
theorem fill_list {place : Nat → Option (Nat × Nat)} : ∀ {ps : List (Nat × Value)} {l l' : List Value}, fillL place l ps = some l' → Instr.fill place l.toArray ps = some l'.toArray
 | [], l, l', h => by simp only [fillL, Option.some.injEq] at h; subst h; rfl
 | (i, v) :: ps, l, l', h => by
   simp only [fillL] at h
   cases hp : place i with
   | none => rw [hp] at h; cases h
   | some os =>
     obtain ⟨o, s⟩ := os
     rw [hp] at h
     simp only at h
     cases hc : (Nat.beq v.cells.toList.length s && Nat.ble (o + v.cells.toList.length) l.length) with
     | false => rw [hc] at h; cases h
     | true =>
       rw [hc] at h
       rw [Bool.and_eq_true] at hc
       have h1 : v.cells.size = s := by simpa using Nat.eq_of_beq_eq_true hc.1
       have h2 : o + v.cells.toList.length ≤ l.length := Nat.le_of_ble_eq_true hc.2
       have h3 : o + v.cells.size ≤ l.length := by simpa using h2
       unfold Instr.fill
       rw [hp]
       simp only [h1, ne_eq, not_true_eq_false, decide_false, Bool.false_or]
       rw [if_neg (by simp; omega)]
       have key := fold_splice v.cells.toList l o 0 (by simpa using h2)
       rw [← Array.foldl_toList, Array.toList_zipIdx]
       rw [key]
       exact fill_list h
theorem run_places (fs : List Field) (h : allLaid P fs = true) (w : World) :
 (fs.mapM (m := Sem) fun f => do pure (f.offset, ← sizeOf f.type)).run P w = .ok (fs.map fun f => (f.offset, lay1 P f.type)) w := by
 induction fs with
 | nil => rfl
 | cons f fs ih =>
   simp only [allLaid, Bool.and_eq_true, Bool.not_eq_true'] at h
   obtain ⟨i, hi, hs⟩ := lay1_some (P := P) (T := f.type) (fun h0 => by rw [h0] at h; simp at h)
   simp only [List.mapM_cons, Sem.run_bind, run_sizeOf1 hi, Result.andThen_ok, Sem.run_pure, ih h.2, hs]
   rfl
theorem pure_sound {t : List Value} {o : Oper} {K : Value → Prop} (h : pureK P t o K) : ∃ v, K v ∧ YP P t o v := by
 obtain ⟨dst, op, ty, pos, after, guard⟩ := o
 cases op <;> simp only [pureK] at h
 case move x => exact ⟨_, h, fun w => rfl⟩
 case assign x => exact ⟨_, h, fun w => rfl⟩
 case pick c a b =>
  unfold pickK at h
  split at h
  · rename_i c' x y hc ha hb
    refine ⟨_, h, fun w => ?_⟩
    simp only [execOp, hc, ha, hb]
    cases c' <;> rfl
  · rename_i c' hno hc
    cases c'
    · exact ⟨_, h, fun w => by simp [execOp, hno, asBool]⟩
    · exact ⟨_, h, fun w => by simp [execOp, hno, asBool]⟩
  · exact h.elim
 case nilCheck x =>
  split at h
  · rename_i a ha
    obtain ⟨b, o, rfl, hK⟩ := onPtr_spec h
    exact ⟨_, hK, fun w => by simp [execOp, ha]⟩
  · rename_i f a b ha
    exact ⟨_, h, fun w => by simp [execOp, ha]⟩
  · exact h.elim
 case binOp op' T x y yt =>
  obtain ⟨v, hv, hr⟩ := bin_run (x := x) (y := y) h
  exact ⟨v, hv, fun w => by
   have := hr w
   simp only [execOp]
   rw [Sem.run_bind, this]
   rfl⟩
 case fieldAddr s x f =>
  split at h
  · rename_i fs a hu ha
    split at h
    · rename_i fd hfd
      obtain ⟨hz, h⟩ := nz_spec h
      · obtain ⟨b, o, rfl, hK⟩ := onPtr_spec h
        obtain ⟨i, hi, his⟩ := lay1_some hz
        refine ⟨_, hK, fun w => ?_⟩
        simp [execOp, Instr.fieldAt, ha, run_underlying hu, hfd, Instr.sureAddr, fieldPlace, run_sizeOf1 hi, his, hz, add_plain, addO_eq]
    · exact h.elim
  · exact h.elim
 case indexAddr T x i =>
  split at h
  · rename_i e a n c k z hu ha hz
    obtain ⟨b, o, ho, h0, h1, hK⟩ := onPtr_spec h
    obtain ⟨hs, hK⟩ := nz_spec hK
    exact ⟨_, hK, fun w => by simp [execOp, ha, hz, run_indexAt hu h0 h1 ho hs]⟩
  · rename_i n e a k z hu ha hz
    obtain ⟨b, o, ho, h0, h1, hK⟩ := onPtr_spec h
    obtain ⟨hs, hK⟩ := nz_spec hK
    exact ⟨_, hK, fun w => by simp [execOp, ha, hz, run_indexAt_arr hu h0 h1 ho hs]⟩
  · exact h.elim
 case index T x i =>
  split at h
  · rename_i s k z hu ha hz
    obtain ⟨h0, h1, hK⟩ := h
    refine ⟨_, hK, fun w => ?_⟩
    have hlt : z.toNat < s.size := by omega
    have hg : s[z.toNat]? = some (s.data.getD z.toNat 0) := by
     rw [getElem?_pos s z.toNat hlt]
     have : s.data.size = s.size := rfl
     simp [Array.getD, this, hlt]
     rfl
    simp [execOp, Instr.index, ha, hz, asIntOf, run_underlying hu, h0, hg]
  · exact pure_gen h
 case build T ps =>
  split at h
  · rename_i fs i hu hi
    split at h
    · rename_i cs hz
      obtain ⟨hl, h⟩ := cond_spec h
      split at h
      · rename_i l hf
        refine ⟨_, h, fun w => ?_⟩
        have hzero : (zeroValue T).run P w = .ok (.agg cs) w := by simp [zeroValue, run_typeInfo w hi, hz]
        have hpl : (fs.mapM (m := Sem) fun f => do pure (f.offset, ← sizeOf f.type)).run P w = .ok ((fs.toList.map fun f => (f.offset, lay1 P f.type)).toArray) w := by
         rw [Array.mapM_eq_mapM_toList, Sem.run_map, run_places _ hl w]; rfl
        have hfn : (fun i => ((fs.toList.map fun f => (f.offset, lay1 P f.type)).toArray)[i]?) = placeOf P fs.toList := by
         funext j
         simp only [placeOf, List.getElem?_toArray, List.getElem?_map]
         cases fs.toList[j]? <;> rfl
        have hpa : (ps.map fun (x : Nat × Operand) => (x.1, ev t x.2)).toList = ps.toList.map fun p => (p.1, ev t p.2) := by simp
        have hfill := fill_list hf
        simp only [Array.toArray_toList] at hfill
        simp only [execOp, Instr.build, Sem.run_bind, hzero, Result.andThen_ok, run_underlying hu, hpl]
        show Result.andThen (Sem.run P (match Instr.fill (fun i => ((fs.toList.map fun f => (f.offset, lay1 P f.type)).toArray)[i]?) (Value.agg cs).cells (ps.map fun (x : Nat × Operand) => (x.1, ev t x.2)).toList with
         | some cells => pure (Value.agg cells) | _ => stuck "build: no such field, or a part of the wrong size") w) _ = _
        rw [hfn, hpa]
        show Result.andThen (Sem.run P (match Instr.fill (placeOf P fs.toList) cs (ps.toList.map fun p => (p.1, ev t p.2)) with
         | some cells => pure (Value.agg cells) | _ => stuck "build: no such field, or a part of the wrong size") w) _ = _
        rw [hfill]
        rfl
      · exact h.elim
    · exact h.elim
  · exact pure_gen h
 case slice T x lo hi mx =>
  split at h
  · rename_i e a n c hu ha
    split at h
    · rename_i l r hl hr
      obtain ⟨h0, h1, h2, hK⟩ := leK_spec hl h
      obtain ⟨hs, hK⟩ := nz_spec hK
      rw [slA_eq _ _ _ _ hs, subN_eq, subN_eq] at hK
      obtain ⟨i, hi', his⟩ := lay1_some hs
      refine ⟨_, hK, fun w => ?_⟩
      have hb := run_bounds (P := P) (t := t) (n := n) (c := c) true hl hr h0 h1 h2
      simp [execOp, Instr.sliceAt, Instr.slice, ha, run_underlying hu, hb, run_sizeOf1 hi', his]
    · exact h.elim
  · rename_i s hu ha
    split at h
    · rename_i l r hl hr
      obtain ⟨h0, h1, h2, hK⟩ := leK_spec hl h
      refine ⟨_, hK, fun w => ?_⟩
      have hb := run_bounds (P := P) (t := t) (n := s.size) (c := s.size) false hl hr h0 h1 h2
      simp [execOp, Instr.sliceAt, Instr.slice, ha, run_underlying hu, hb]
    · exact h.elim
  · rename_i e a n c mx hu ha
    split at h
    · rename_i l r m hl hr hm
      obtain ⟨hh, h⟩ := cond_spec h
      obtain ⟨h0, h1, h2, h3, hK⟩ := leK_spec hl h
      obtain ⟨hs, hK⟩ := nz_spec hK
      rw [slA_eq _ _ _ _ hs, subN_eq, subN_eq] at hK
      obtain ⟨i, hi', his⟩ := lay1_some hs
      refine ⟨_, hK, fun w => ?_⟩
      have hb := run_bounds3 (P := P) (t := t) (n := n) (c := c) true hh hl hr hm h0 h1 h2 h3
      simp [execOp, Instr.sliceAt, Instr.slice, ha, run_underlying hu, hb, run_sizeOf1 hi', his]
    · exact h.elim
  · rename_i A a hu ha
    split at h
    · rename_i n e hA
      split at h
      · rename_i l r hl hr
        obtain ⟨b, o, rfl, h⟩ := onPtr_spec h
        obtain ⟨h0, h1, h2, hK⟩ := leK_spec hl h
        obtain ⟨hs, hK⟩ := nz_spec hK
        rw [slA_eq _ _ _ _ hs, subN_eq, subN_eq] at hK
        obtain ⟨i, hi', his⟩ := lay1_some hs
        refine ⟨_, hK, fun w => ?_⟩
        have hb := run_bounds (P := P) (t := t) (n := n) (c := n) false hl hr h0 h1 h2
        simp [execOp, Instr.sliceAt, Instr.slice, ha, run_underlying hu, run_underlying hA, hb, run_sizeOf1 hi', his, asAddr]
        by_cases hc : n = l.toNat <;> simp [hc]
      · exact h.elim
    · exact h.elim
  · rename_i n e a hu ha
    split at h
    · rename_i l r hl hr
      obtain ⟨b, o, rfl, h⟩ := onPtr_spec h
      obtain ⟨h0, h1, h2, hK⟩ := leK_spec hl h
      obtain ⟨hs, hK⟩ := nz_spec hK
      rw [slA_eq _ _ _ _ hs, subN_eq, subN_eq] at hK
      obtain ⟨i, hi', his⟩ := lay1_some hs
      refine ⟨_, hK, fun w => ?_⟩
      have hb := run_bounds (P := P) (t := t) (n := n) (c := n) false hl hr h0 h1 h2
      simp [execOp, Instr.sliceAt, Instr.sureAddr, ha, run_underlying hu, hb, run_sizeOf1 hi', his]
      by_cases hc : n = l.toNat <;> simp [hc]
    · exact h.elim
  · exact h.elim
 all_goals exact pure_gen h
end
end Go.Proofs.YtaogfopaalancaaDoor
/- The engine, part d: reads, writes and calls; lists of operations. -/
namespace Go.Proofs.YtaogfopaalancaaDoor
open Go
section
variable {P : Program}
theorem Sh.Ex_spec {y : Sh} {f : Value → Prop} (h : y.Ex f) : ∃ v, f v := by
 cases y <;> simp only [Sh.Ex] at h
 case sl => obtain ⟨a, n, c, h⟩ := h; exact ⟨_, h⟩
 all_goals (obtain ⟨x, h⟩ := h; exact ⟨_, h⟩)
theorem exL_spec : ∀ {l : List Value} {f : List Value → Prop}, exL l f → ∃ vs, f vs
 | [], _, h => ⟨[], h⟩
 | _ :: _, _, h => let ⟨_, h1⟩ := Sh.Ex_spec h; let ⟨_, h2⟩ := exL_spec h1; ⟨_, h2⟩
theorem exE_spec {z : Value} {f : Value → Prop} (h : exE z f) : ∃ v, f v := by
 unfold exE at h
 split at h
 · obtain ⟨vs, h⟩ := exL_spec h; exact ⟨_, h⟩
 · exact Sh.Ex_spec h
theorem exT_spec : ∀ {l : List Value} {f : List Value → Prop}, exT l f → ∃ vs, f vs
 | [], _, h => ⟨[], h⟩
 | _ :: _, _, h => let ⟨_, h1⟩ := exE_spec h; let ⟨_, h2⟩ := exT_spec h1; ⟨_, h2⟩
theorem exZ_spec {z : Value} {f : Value → Prop} (h : exZ z f) : ∃ v, f v := by
 unfold exZ at h
 split at h
 · obtain ⟨vs, h⟩ := exT_spec h; exact ⟨_, h⟩
 · exact exE_spec h
theorem typed_spec {T : TypeId} {K : Value → Heap → Prop} {v : Value} {h : Heap} (hh : typed P T K v h) : K v h := by
 obtain ⟨v', rfl, hK⟩ := exZ_spec hh
 exact hK
theorem layOf_one {T : TypeId} {z : Value} (h : layOf P T = some (.one z)) : (∀ w, (isAgg T).run P w = .ok false w) ∧ single z = true ∧ ∃ i, P.info? T = some i ∧ i.size = 1 := by
 unfold layOf at h
 split at h
 · split at h <;> (try split at h) <;> simp at h
 · split at h <;> (try split at h) <;> simp at h
 · rename_i d i n1 n2 hu hi
   split at h
   · rename_i z' hz
     split at h
     · rename_i hs
       simp at h; subst h
       exact ⟨fun w => run_isAgg_plain hu (by cases d <;> first | rfl | exact absurd rfl (n1 _) | exact absurd rfl (n2 _ _)) w, hs.1, i, hi, hs.2⟩
     · cases h
   · cases h
 · cases h
theorem layOf_many {T : TypeId} {cs : List Value} (h : layOf P T = some (.many cs)) : (∀ w, (isAgg T).run P w = .ok true w) ∧ ∃ i, P.info? T = some i ∧ i.size = cs.length := by
 unfold layOf at h
 split at h
 · rename_i fs i hu hi
   split at h
   · rename_i cs' hz
     split at h
     · rename_i hs
       simp at h; subst h
       exact ⟨fun w => by simp [isAgg, run_underlying hu], i, hi, by simpa using hs.symm⟩
     · cases h
   · cases h
 · rename_i n e i hu hi
   split at h
   · rename_i cs' hz
     split at h
     · rename_i hs
       simp at h; subst h
       exact ⟨fun w => by simp [isAgg, run_underlying hu], i, hi, by simpa using hs.symm⟩
     · cases h
   · cases h
 · split at h <;> (try split at h) <;> simp at h
 · cases h
theorem storeCells_spec {b o : Nat} : ∀ {vs : List Value} {i : Nat} {h : Heap} {K : Heap → Prop}, storeS b o vs i h K → SWp P (storeCells ⟨b, o, none⟩ vs i) h fun _ h' => K h'
 | [], _, _, _, hh => hh
 | v :: vs, i, h, K, hh => by
   obtain ⟨h1, h2, h3, h4⟩ := hh
   unfold storeCells
   refine SWp.bind ?_
   rw [addO_eq] at h2 h3 h4
   exact ⟨h1, by rw [add_plain]; exact h2, by rw [add_plain]; exact h3, by rw [add_plain]; exact storeCells_spec h4⟩
theorem SWp_prog {α : Type} {s : Sem α} {h : Heap} {K : α → Heap → Prop} {a : α} (_hr : ∀ w, s.run P w = .ok a w) (hx : XWp P s (fun b => b = a)) (hK : K a h) : SWp P s h K := by
 clear _hr
 induction s with
 | pure b => cases hx; exact hK
 | program k ih => exact ih P hx
 | mark m k ih => exact ih hx
 | _ => exact hx.elim
theorem XWp_sizeOf {T : TypeId} {i : TypeInfo} (h : P.info? T = some i) : XWp P (sizeOf T) (fun b => b = i.size) := by
 show XWp P (Sem.bind (typeInfo T) _) _
 unfold typeInfo
 show XWp P (Sem.bind (Sem.bind program _) _) _
 simp only [program, Sem.bind, XWp, h]
 rfl
theorem storeVar_one {T : TypeId} {b o : Nat} {v : Value} {h : Heap} {K : Heap → Prop} {z : Value} (hl : layOf P T = some (.one z)) (hh : stK h ⟨b, o, none⟩ v K) : SWp P (storeVar T ⟨b, o, none⟩ v) h fun _ h' => K h' := by
 obtain ⟨-, -, i, hi, hs⟩ := layOf_one hl
 unfold storeVar
 refine SWp.bind (SWp_prog (a := i.size) (run_sizeOf1 hi) (XWp_sizeOf hi) ?_)
 obtain ⟨h1, h2, h3, h4⟩ := hh
 have hc : v.cells = #[v] := by cases v <;> simp [single] at h1 <;> rfl
 rw [hs, hc, if_neg (by simp)]
 refine SWp.bind ?_
 exact storeCells_spec (vs := [v]) (i := 0) ⟨h1, by rw [addO_eq]; exact h2, by rw [addO_eq]; exact h3, by rw [addO_eq]; exact h4⟩
theorem storeVar_many {T : TypeId} {b o : Nat} {vs : Array Value} {h : Heap} {K : Heap → Prop} {cs : List Value} (hl : layOf P T = some (.many cs)) (hn : cs.length = vs.size) (hh : storeS b o vs.toList 0 h K) :
 SWp P (storeVar T ⟨b, o, none⟩ (.agg vs)) h fun _ h' => K h' := by
 obtain ⟨-, i, hi, hs⟩ := layOf_many hl
 unfold storeVar
 refine SWp.bind (SWp_prog (a := i.size) (run_sizeOf1 hi) (XWp_sizeOf hi) ?_)
 rw [hs, if_neg (by simp [Value.cells, hn])]
 exact storeCells_spec hh
theorem call_gen {g : FuncId} (hc : Callable P g) {args : Array Value} {h : Heap} {K : Next → Heap → Prop} (hK : K (.enter g args) h) : SWp P (callFunc g args) h K := by
 obtain ⟨fn, hf, hn, hb⟩ := hc
 unfold callFunc
 show SWp P (Sem.bind program _) h K
 simp only [program, Sem.bind, SWp, hf]
 rw [if_neg (by rw [hn]; simp), if_neg (by rw [hb]; simp)]
 exact hK
theorem eff_sound {H : Hn} {t : List Value} {o : Oper} {h : Heap} {K : Value → Heap → Prop} (hh : effK P H t o h K) : SWp P (execOp (ev t) o) h (nextK P K) := by
 obtain ⟨dst, op, ty, pos, after, guard⟩ := o
 cases op <;> simp only [effK] at hh
 case store T a x =>
  split at hh
  · rename_i ad ha
    simp only [execOp]
    refine SWp.bind ?_
    simp only [Instr.storeAt]
    refine SWp.bind ?_
    rw [ha]
    unfold storeK at hh
    split at hh
    · rename_i z x' hl
      obtain ⟨b, o, rfl, h1⟩ := onPtr_spec hh
      exact storeVar_one hl h1
    · rename_i cs vs hl hx
      obtain ⟨b, o, rfl, h1⟩ := onPtr_spec hh
      obtain ⟨h1, h2⟩ := cond_spec h1
      rw [hx]
      exact storeVar_many hl (by simpa using Nat.eq_of_beq_eq_true h1) h2
    · exact hh.elim
  · exact hh.elim
 case box T x => exact hh
 case alloc T =>
  split at hh
  · rename_i z hz
    cases hi : P.info? T with
    | none => simp [hi] at hz
    | some i =>
      simp [hi] at hz
      simp only [execOp, Instr.alloc]
      refine SWp.bind (SWp.bind ?_)
      unfold zeroValue typeInfo
      refine SWp.bind (SWp.bind ?_)
      show SWp P (match P.info? T with | some i => pure i | none => stuck "no such type") h _
      rw [hi]
      show SWp P (match i.zero with | some v => pure v | none => unsupported (.resourceLimit "a value of more than 2^22 cells")) h _
      rw [hz]
      exact hh
  · exact hh.elim
 case buildSlice T n ps =>
  split at hh
  · rename_i e hu
    split at hh
    · rename_i i hi
      split at hh
      · rename_i z hz
        obtain ⟨hc, hh⟩ := cond_spec hh
        rw [Bool.and_eq_true, Bool.not_eq_true'] at hc
        split at hh
        · rename_i cells hf
          have h1 : ¬ n * i.size > 2 ^ 24 := by have := Nat.le_of_ble_eq_true hc.1; omega
          have h2 : n * i.size ≠ 0 := fun h0 => by rw [h0] at hc; simp at hc
          simp only [execOp, Instr.buildSlice]
          refine SWp.bind (SWp.bind ?_)
          unfold underlying
          refine SWp.bind ?_
          show SWp P (match P.underlying T with | some d => pure d | none => stuck "no such type") h _
          rw [hu]
          show SWp P (sizeOf e >>= _) h _
          refine SWp.bind (SWp_prog (a := i.size) (run_sizeOf1 hi) (XWp_sizeOf hi) ?_)
          rw [if_neg h1]
          rw [if_neg h2]
          refine SWp.bind (SWp.bind ?_)
          unfold typeInfo
          refine SWp.bind ?_
          show SWp P (match P.info? e with | some i => pure i | none => stuck "no such type") h _
          rw [hi]
          show SWp P (match i.zero with | some v => pure v | none => unsupported (.resourceLimit "a value of more than 2^22 cells")) h _
          rw [hz]
          refine SWp.bind ?_
          have hpa : (ps.map fun (x : Nat × Operand) => (x.1, ev t x.2)).toList = ps.toList.map fun p => (p.1, ev t p.2) := by simp
          have hra : (Array.range (n * i.size)).map (fun j => z.cells[j % z.cells.size]!) = ((List.range (n * i.size)).map fun j => z.cells[j % z.cells.size]!).toArray := by
           apply Array.ext'; simp
          have hfill := fill_list hf
          show SWp P (match Instr.fill (fun j => some (j * i.size, i.size)) ((Array.range (n * i.size)).map (z.cells[· % z.cells.size]!)) (ps.map fun (j, x) => (j, ev t x)).toList with
           | some cells => (do let a ← newRow e cells; pure (Value.slice (some a) n n) : Sem Value) | _ => stuck "buildSlice: a part of the wrong size") h _
          rw [hra]
          show SWp P (match Instr.fill (fun j => some (j * i.size, i.size)) ((List.range (n * i.size)).map fun j => z.cells[j % z.cells.size]!).toArray (ps.map fun (x : Nat × Operand) => (x.1, ev t x.2)).toList with
           | some cells => (do let a ← newRow e cells; pure (Value.slice (some a) n n) : Sem Value) | _ => stuck "buildSlice: a part of the wrong size") h _
          rw [hpa, hfill]
          exact hh
        · exact hh.elim
      · exact hh.elim
    · exact hh.elim
  · exact hh.elim
 case makeMap T r =>
  cases r with
  | none => exact hh
  | some x => exact hh
 case mapUpdate T m k v =>
  simp only [execOp]
  exact SWp.bind hh
 case makeSlice T l c =>
  simp only [execOp]
  exact SWp.bind (SWp.mono (fun v h' hv => typed_spec hv) hh)
 case range T x =>
  simp only [execOp]
  exact SWp.bind hh
 case mapEntry T m k =>
  simp only [execOp]
  exact SWp.bind hh
 case entryStore T m s v =>
  simp only [execOp]
  exact SWp.bind hh
 case next it str =>
  cases str
  · simp only [execOp]
    refine SWp.bind (SWp.mono (fun v h' hv => ?_) hh)
    rcases hv with ⟨rfl, hK⟩ | ⟨k, x, rfl, hK⟩
    · exact hK
    · exact hK
  · simp only [execOp]
    refine SWp.bind (SWp.mono (fun v h' hv => ?_) hh)
    rcases hv with ⟨rfl, hK⟩ | ⟨k, x, rfl, hK⟩
    · exact hK
    · exact hK
 case entry it =>
  simp only [execOp]
  unfold entryK at hh
  split at hh
  · refine SWp.bind (SWp.mono (fun v h' hv => ?_) hh)
    obtain ⟨a, ha⟩ := exE_spec hv
    obtain ⟨b, rfl, hK⟩ := exE_spec ha
    exact hK
  · exact hh.elim
 case call c =>
  obtain ⟨callee, args, argTypes⟩ := c
  have hargs : args.map (ev t) = (args.toList.map (ev t)).toArray := by apply Array.ext'; rw [Array.toList_map]
  simp only at hh
  split at hh
  · rename_i f
    unfold CallV at hh
    split at hh
    · rename_i g first captured hf
      simp only [execOp, resolve, hf, Deferred.ofValue]
      refine call_gen hh.1 ?_
      refine Run.mono (R := typed P ty K) ?_ (fun v h' hv => typed_spec hv)
      have he : (first ++ args.map (ev t) ++ captured).toList = first.toList ++ args.toList.map (ev t) ++ captured.toList := by simp
      rw [he]; exact hh
    · exact hh.elim
  · split at hh
    · rename_i s x hl
      have hm : args.map (ev t) = #[ev t s, ev t x] := by rw [hargs, hl]; rfl
      simp only [execOp, resolve, hm]
      exact SWp.bind (SWp.bind (SWp.mono (fun v h' hv => typed_spec hv) hh))
    · exact hh.elim
  · split at hh
    · rename_i s x hl
      have hm : args.map (ev t) = #[ev t s, ev t x] := by rw [hargs, hl]; rfl
      simp only [execOp, resolve, hm]
      exact SWp.bind (SWp.bind (SWp.mono (fun v h' hv => typed_spec hv) hh))
    · exact hh.elim
  · split at hh
    · rename_i s x hl
      have hm : args.map (ev t) = #[ev t s, ev t x] := by rw [hargs, hl]; rfl
      simp only [execOp, resolve, hm]
      exact SWp.bind (SWp.bind hh)
    · exact hh.elim
  · split at hh
    · rename_i x hl
      have hm : args.map (ev t) = #[ev t x] := by rw [hargs, hl]; rfl
      simp only [execOp, resolve, hm]
      exact SWp.bind (SWp.bind hh)
    · exact hh.elim
  · exact hh
 all_goals exact hh
end
end Go.Proofs.YtaogfopaalancaaDoor
/- The engine, part e: regions (in order, and those that draw their order). -/
namespace Go.Proofs.YtaogfopaalancaaDoor
open Go
section
variable {P : Program}
theorem lget_eq : ∀ (l : List Value) (i : Nat), lget l i = l.getD i undef
 | [], i => by simp [lget]
 | v :: l, 0 => by simp [lget]
 | v :: l, i + 1 => by simp only [lget, lget_eq l i]; simp
theorem lset_eq : ∀ (l : List Value) (i : Nat) (v : Value), lset l i v = l.set i v
 | [], i, v => by simp [lset]
 | x :: l, 0, v => by simp [lset]
 | x :: l, i + 1, v => by simp only [lset, lset_eq l i]; simp
theorem eval_eq (a : Act) : a.eval = ev a.tmps.toList := by
 funext x
 cases x with
 | tmp i => simp only [Act.eval, ev, lget_eq]; simp [Array.getD_eq_getD_getElem?]
 | _ => rfl
theorem put_list (a : Act) (d : Option Tmp) (v : Value) : (a.put d v).tmps.toList = lput a.tmps.toList d v := by
 cases d with
 | none => rfl
 | some i => simp [Act.put, lput, lset_eq]
theorem put_defers' (a : Act) (d : Option Tmp) (v : Value) : (a.put d v).defers = a.defers := by cases d <;> rfl
theorem lget_lset_ne : ∀ (l : List Value) {i j : Nat} (v : Value), i ≠ j → lget (lset l i v) j = lget l j
 | [], _, _, _, _ => rfl
 | x :: l, 0, 0, v, h => absurd rfl h
 | x :: l, 0, j + 1, v, _ => rfl
 | x :: l, i + 1, 0, v, _ => rfl
 | x :: l, i + 1, j + 1, v, h => lget_lset_ne l v (by omega)
theorem length_lset : ∀ (l : List Value) (i : Nat) (v : Value), (lset l i v).length = l.length
 | [], _, _ => rfl
 | _ :: _, 0, _ => rfl
 | _ :: l, i + 1, v => by simp [lset, length_lset l i v]
theorem lset_self : ∀ (l : List Value) (i : Nat) (c : Bool), lget l i = .bool c → lset l i (.bool c) = l
 | [], _, _, _ => rfl
 | x :: l, 0, c, h => by simp only [lget] at h; subst h; rfl
 | x :: l, i + 1, c, h => by simp only [lset]; rw [lset_self l i c h]
structure Agr (md : List Nat) (t t' : List Value) : Prop where
 len : t'.length = t.length
 same : ∀ i, i ∉ md → lget t' i = lget t i
theorem Agr.refl (md : List Nat) (t : List Value) : Agr md t t := ⟨rfl, fun _ _ => rfl⟩
theorem Agr.trans {md : List Nat} {a b c : List Value} (h : Agr md a b) (k : Agr md b c) : Agr md a c :=
 ⟨k.len.trans h.len, fun i hi => (k.same i hi).trans (h.same i hi)⟩
theorem Agr.mono {md md' : List Nat} {a b : List Value} (h : Agr md a b) (hm : ∀ i, i ∈ md → i ∈ md') : Agr md' a b :=
 ⟨h.len, fun i hi => h.same i fun hc => hi (hm i hc)⟩
theorem Agr.put {md : List Nat} {t : List Value} {d : Option Tmp} (v : Value) (hd : ∀ i, d = some i → i ∈ md) : Agr md t (lput t d v) := by
 cases d with
 | none => exact .refl _ _
 | some i => exact ⟨length_lset _ _ _, fun j hj => lget_lset_ne _ _ fun e => hj (e ▸ hd i rfl)⟩
theorem yielded_spec {ops : List Oper} {a : Act} {j : Nat} : yielded ops.toArray a.tmps j = match (ops[j]?).bind (·.dst) with
 | some d => (match lget a.tmps.toList d with | .bool c => some c | _ => none)
 | none => none := by
 unfold yielded
 simp only [List.getElem?_toArray]
 cases hd : (ops[j]?).bind (·.dst) with
 | none => rfl
 | some d =>
   simp only [Option.bind_some, lget_eq]
   cases ht : a.tmps[d]? with
   | none => simp [ht, undef]
   | some v =>
     simp only [List.getD_eq_getElem?_getD, Array.getElem?_toList, ht, Option.getD_some]
     cases v <;> rfl
theorem guarded_spec {ops : List Oper} {o : Oper} {a : Act} {A B : List Value → Prop} (h : guarded ops o a.tmps.toList A B) :
 (Region.wanted o (yielded ops.toArray a.tmps) = true ∧ A a.tmps.toList) ∨ (Region.wanted o (yielded ops.toArray a.tmps) = false ∧ B a.tmps.toList) := by
 unfold guarded guardSlot at h
 unfold Region.wanted
 cases hg : o.guard with
 | none => rw [hg] at h; exact .inl ⟨rfl, h⟩
 | some jw =>
   obtain ⟨j, want⟩ := jw
   rw [hg] at h
   simp only [yielded_spec]
   simp only at h
   cases hd : (ops[j]?).bind (·.dst) with
   | none => rw [hd] at h; exact .inr ⟨by simp, h⟩
   | some d =>
     rw [hd] at h
     simp only at h ⊢
     cases hv : lget a.tmps.toList d with
     | bool c =>
       rw [hv] at h
       simp only at h ⊢
       cases c <;> cases want <;> simp only [cond_true, cond_false, lset_self _ _ _ hv] at h <;> simp [h]
     | _ => rw [hv] at h; exact .inr ⟨by simp, h⟩
def Closed (ops : List Oper) (listed : Array Bool) : Prop :=
 ∀ j oj, ops[j]? = some oj → listed.getD j false = true → ∀ e ∈ oj.after, Region.binds .any e = true → listed.getD e.on false = true
theorem Closed.set {ops : List Oper} {listed : Array Bool} (hc : Closed ops listed) {i : Nat} (hi : i ∈ Region.ready .any ops.toArray listed) : Closed ops (listed.setIfInBounds i true) := by
 intro j oj hj hl e he hb
 obtain ⟨_, oi, hoi, hall⟩ := mem_ready.1 hi
 by_cases hij : i = j
 · subst hij
   have : oj = oi := Option.some.inj (hj.symm.trans (by simpa using hoi))
   subst this
   exact getD_set_true (hall e he hb)
 · rw [getD_set_ne false hij] at hl
   exact getD_set_true (hc j oj hj hl e he hb)
theorem waits_listed {ops : List Oper} {listed : Array Bool} (hc : Closed ops listed) {i : Nat} : ∀ (n j : Nat) (oj : Oper), ops[j]? = some oj →
 (∀ e ∈ oj.after, Region.binds .any e = true → listed.getD e.on false = true) → waits ops n i j = true → listed.getD i false = true
 | 0, _, _, _, _, h => by simp [waits] at h
 | n + 1, j, oj, hj, hall, h => by
   simp only [waits, hj, List.any_eq_true, Bool.and_eq_true, Bool.or_eq_true, beq_iff_eq] at h
   obtain ⟨e, he, hb, h1⟩ := h
   have hl := hall e (by simpa using he) hb
   rcases h1 with h1 | h1
   · rw [← h1]; exact hl
   · cases hk : ops[e.on]? with
     | none =>
       cases n with
       | zero => simp [waits] at h1
       | succ n => simp [waits, hk] at h1
     | some ok => exact waits_listed hc n e.on ok hk (fun e' he' hb' => hc e.on ok hk hl e' he' hb') h1
def YieldC (P : Program) (ops : List Oper) (o : Oper) (v : Value) (C : World → Prop) (a : Act) : Prop :=
 (Region.wanted o (yielded ops.toArray a.tmps) = true ∧ ∀ w, C w → (execOp a.eval o).run P w = .ok (.value v) w) ∨ (Region.wanted o (yielded ops.toArray a.tmps) = false ∧ v = undef)
theorem YieldC.wpOp {ops : List Oper} {Q : Exit → Act → World → Prop} {i : Nat} {o : Oper} {v : Value} {C : World → Prop} {a : Act} (hi : ops[i]? = some o) (hy : YieldC P ops o v C a) {K : Act → World → Prop} {w : World} (hC : C w)
 (h : K (a.put o.dst v) w) : wpOp P ops.toArray Q i K a w := by
 unfold Go.wpOp
 simp only [List.getElem?_toArray, hi]
 rcases hy with ⟨hw, hv⟩ | ⟨hw, rfl⟩
 · simp only [hw, if_true, Oper.wp, hv w hC, Oper.upon]; exact .inl h
 · simp only [hw, Bool.false_eq_true, if_false]; exact h
theorem YieldC.of_same {ops : List Oper} {o : Oper} {v : Value} {C : World → Prop} {a a' : Act} (hy : YieldC P ops o v C a) (he : execOp a'.eval o = execOp a.eval o)
 (hw : Region.wanted o (yielded ops.toArray a'.tmps) = Region.wanted o (yielded ops.toArray a.tmps)) : YieldC P ops o v C a' := by
 unfold YieldC at *
 rw [he, hw]
 exact hy
theorem wpOp_putC {ops : List Oper} {Q : Exit → Act → World → Prop} {j : Nat} {oi oj : Oper} {v : Value} {C : World → Prop} (hj : ops[j]? = some oj) (hap : oi.apart ops.toArray oj = true)
 (hsi : ∀ cs b, oi.op ≠ .select cs b) (hsj : ∀ cs b, oj.op ≠ .select cs b) (hQ : ∀ c a w, ¬ Q (.panic c) a w) (hQo : ∀ a w, ¬ Q .outgrown a w) {K : Act → World → Prop} {a : Act} {w : World}
 (hy : YieldC P ops oi v C a) (h : wpOp P ops.toArray Q j K (a.put oi.dst v) w) :
 wpOp P ops.toArray Q j (fun a' w' => YieldC P ops oi v C a' ∧ K (a'.put oi.dst v) w') a w := by
 obtain ⟨h1, h2, h3⟩ := Oper.apart_spec hap
 have keep : ∀ (a : Act), YieldC P ops oi v C a → ∀ u, YieldC P ops oi v C (a.put oj.dst u) := fun a hy u =>
  hy.of_same (execOp_put oi hsi a oj.dst u h3) (wanted_put oi a oj.dst u h3)
 have keepD : ∀ d, YieldC P ops oi v C { a with defers := d :: a.defers } := fun d => hy.of_same rfl rfl
 unfold Go.wpOp at *
 simp only [List.getElem?_toArray, hj] at *
 rw [wanted_put oj a oi.dst v h1] at h
 split
 · rename_i hw
   simp only [hw, if_true] at h
   rcases h with h | ⟨_, a', w', hlets⟩
   case inr => exact absurd hlets (hQo _ _)
   refine .inl ?_
   unfold Oper.wp at *
   rw [execOp_put oj hsj a oi.dst v h1] at h
   generalize (execOp a.eval oj).run P w = r at *
   cases r with
   | ok n w' =>
     cases n <;> simp only [Oper.upon] at h ⊢
     case value u => exact ⟨keep a hy u, by rw [← Act.put_comm a v u h2]; exact h⟩
     case skip => exact ⟨keep a hy _, by rw [← Act.put_comm a v undef h2]; exact h⟩
     case defer d =>
      refine ⟨keep _ (keepD d) _, ?_⟩
      rw [← Act.put_comm _ v undef h2, ← Act.put_defers]
      exact h
     case enter f args =>
      refine Calls.mono h fun e w'' he => ?_
      cases e with
      | returned u => exact ⟨keep a hy u, by rw [← Act.put_comm a v u h2]; exact he⟩
      | panicked c => exact absurd he (hQ _ _ _)
      | outgrown => obtain ⟨a', w', hlets⟩ := he; exact absurd hlets (hQo _ _)
     case row row args => exact Rows.mono h fun u w'' he => ⟨keep a hy u, by rw [← Act.put_comm a v u h2]; exact he⟩
   | halt x w' =>
     cases x <;> simp only [Oper.upon] at h ⊢
     case panic u => exact absurd h (hQ _ _ _)
 · rename_i hw
   simp only [hw] at h
   exact ⟨keep a hy _, by rw [← Act.put_comm a v undef h2]; exact h⟩
end
end Go.Proofs.YtaogfopaalancaaDoor
/- The engine, part f: code and functions. -/
namespace Go.Proofs.YtaogfopaalancaaDoor
open Go
section
variable {P : Program}
structure Lst (ops : List Oper) (done : List Nat) (listed : Array Bool) : Prop where
 size : listed.size = ops.length
 eq : ∀ k, k < ops.length → listed.getD k true = done.contains k
 bd : ∀ k, done.contains k = true → k < ops.length
theorem Lst.getF {ops : List Oper} {done : List Nat} {listed : Array Bool} (h : Lst ops done listed) {k : Nat} (hk : k < ops.length) : listed.getD k false = done.contains k := by
 have := h.eq k hk
 have hs : k < listed.size := by rw [h.size]; exact hk
 simp [hs] at this ⊢
 exact this
theorem Lst.set {ops : List Oper} {done : List Nat} {listed : Array Bool} (h : Lst ops done listed) (i : Nat) (hi : i < ops.length) : Lst ops (i :: done) (listed.setIfInBounds i true) := by
 refine ⟨by simp [h.size], fun k hk => ?_, fun k hk => ?_⟩
 rotate_left
 · rw [List.contains_cons, Bool.or_eq_true, beq_iff_eq] at hk
   rcases hk with rfl | hk
   · exact hi
   · exact h.bd k hk
 have hs : i < listed.size := by rw [h.size]; exact hi
 by_cases hik : i = k
 · subst hik; simp [hs]
 · rw [getD_set_ne true hik, h.eq k hk]
   have : (k == i) = false := by simpa using Ne.symm hik
   simp only [List.contains_cons, this, Bool.false_or]
theorem mem_readyL {ops : List Oper} {done : List Nat} {listed : Array Bool} (h : Lst ops done listed) {i : Nat} :
 i ∈ Region.ready .any ops.toArray listed ↔ readyL ops done i = true := by
 rw [mem_ready]
 unfold readyL
 simp only [List.getElem?_toArray]
 cases ho : ops[i]? with
 | none => simp
 | some o =>
   have hlt : i < ops.length := (List.getElem?_eq_some_iff.1 ho).1
   rw [h.eq i hlt]
   simp only [Option.some.injEq, exists_eq_left', Bool.and_eq_true, Bool.not_eq_true', List.all_eq_true, Bool.or_eq_true]
   refine and_congr_right fun _ => ⟨fun hh e he => ?_, fun hh e he hb => ?_⟩
   · cases hb : Region.binds .any e with
     | false => exact .inl rfl
     | true =>
       refine .inr ?_
       have h1 := hh e (by simpa using he) hb
       rcases Nat.lt_or_ge e.on ops.length with h2 | h2
       · rw [← h.getF h2]; exact h1
       · simp [show listed.size ≤ e.on by rw [h.size]; exact h2] at h1
   · have h1 := (hh e (by simpa using he)).resolve_left (by simp [hb])
     rcases Nat.lt_or_ge e.on ops.length with h2 | h2
     · rw [h.getF h2]; exact h1
     · exact absurd (h.bd _ h1) (by omega)
theorem find_range {n : Nat} {p : Nat → Bool} {i : Nat} (h : (List.range n).find? p = some i) : i < n ∧ p i = true :=
 ⟨List.mem_range.1 (List.mem_of_find?_eq_some h), List.find?_some h⟩
theorem nextQ_spec {ops : List Oper} {done : List Nat} {i : Nat} (h : nextQ ops done = some i) : readyL ops done i = true ∧ ∃ o, ops[i]? = some o ∧ (pureOp o || readOp o) = true := by
 have := (find_range h).2
 simp only [Bool.and_eq_true] at this
 refine ⟨this.1, ?_⟩
 cases ho : ops[i]? with
 | none => rw [ho] at this; simp at this
 | some o => rw [ho] at this; exact ⟨o, rfl, this.2⟩
theorem conjL_spec : ∀ {l : List Nat} {f : Nat → Prop}, conjL l f → l ≠ [] ∧ ∀ i ∈ l, f i
 | [], _, h => h.elim
 | [i], f, h => ⟨by simp, fun j hj => by simp only [List.mem_singleton] at hj; subst hj; exact h⟩
 | i :: j :: l, f, h => ⟨by simp, fun k hk => by
     simp only [List.mem_cons] at hk
     rcases hk with rfl | hk
     · exact h.1
     · exact (conjL_spec (l := j :: l) h.2).2 k (by simpa using hk)⟩
theorem lset_get : ∀ (l : List Value) (i : Nat), lset l i (lget l i) = l
 | [], _ => rfl
 | _ :: _, 0 => rfl
 | x :: l, i + 1 => by simp only [lset, lget]; rw [lset_get l i]
theorem rep_get {n k : Nat} (d : Bool) (hk : k < n) : (Array.replicate n false).getD k d = false := by
 rw [Array.getD_eq_getD_getElem?, Array.getElem?_replicate, if_pos hk]; rfl
theorem rep_getF (n k : Nat) : (Array.replicate n false).getD k false = false := by
 rw [Array.getD_eq_getD_getElem?, Array.getElem?_replicate]; split <;> rfl
def rvS (tmps : Array Value) : ResultVar → Sem Value
 | .tmp t => pure (tmps.getD t undef)
 | .cell a t => do loadVar t (← asAddr (tmps.getD a undef))
theorem one_spec (vs : List Value) : (if h : vs.toArray.size = 1 then vs.toArray[0] else .tuple vs.toArray) = one vs := by
 match vs with
 | [] => rfl
 | [v] => rfl
 | v :: u :: vs => rw [dif_neg (by simp)]; rfl
end
end Go.Proofs.YtaogfopaalancaaDoor
/- The engine, part g: what the named predicates come to on known memory: slices of records, own rows, maps. -/
namespace Go.Proofs.YtaogfopaalancaaDoor
open Go
def i64 (x : Int) : Prop := -9223372036854775808 ≤ x ∧ x ≤ 9223372036854775807
theorem w64 {x : Int} (h1 : -9223372036854775808 ≤ x) (h2 : x ≤ 9223372036854775807) : IntKind.wrap .i64 x = x := by
 have hb : (2 ^ IntKind.i64.bits : Int) = 18446744073709551616 := by decide
 have hb1 : (2 ^ (IntKind.i64.bits - 1) : Int) = 9223372036854775808 := by decide
 simp only [IntKind.wrap, IntKind.signed, hb, hb1, Bool.true_and, decide_eq_true_eq, ge_iff_le]
 split <;> omega
theorem cIf {p : Prop} [Decidable p] {A B : Prop} (h1 : p → A) (h2 : ¬ p → B) : cond (decide p) A B := by
 by_cases h : p
 · rw [decide_eq_true h]; exact h1 h
 · rw [decide_eq_false h]; exact h2 h
theorem cEq {a b : Int} {A B : Prop} (h1 : a = b → A) (h2 : a ≠ b → B) : cond (a == b) A B := by
 by_cases h : a = b
 · rw [beq_iff_eq.2 h]; exact h1 h
 · rw [beq_eq_false_iff_ne.2 h]; exact h2 h
theorem cNe {a b : Int} {A B : Prop} (h1 : a ≠ b → A) (h2 : a = b → B) : cond (a != b) A B := by
 by_cases h : a = b
 · have : (a != b) = false := by simp [h]
   rw [this]; exact h2 h
 · have : (a != b) = true := by simpa using h
   rw [this]; exact h1 h
structure KB (F : List Nat) (h h' : Heap) : Prop where
 size : h.size ≤ h'.size
 blk : ∀ b, b < h.size → b ∉ F → h'[b]? = h[b]?
abbrev Keep (h h' : Heap) : Prop := KB [] h h'
theorem KB.refl (F : List Nat) (h : Heap) : KB F h h := ⟨Nat.le_refl _, fun _ _ _ => rfl⟩
theorem KB.trans {F : List Nat} {a b c : Heap} (h : KB F a b) (k : KB F b c) : KB F a c :=
 ⟨Nat.le_trans h.size k.size, fun x hx hf => (k.blk x (Nat.lt_of_lt_of_le hx h.size) hf).trans (h.blk x hx hf)⟩
theorem KB.mono {F G : List Nat} {a b : Heap} (h : KB F a b) (hs : ∀ x, x ∈ F → x < a.size → x ∈ G) : KB G a b :=
 ⟨h.size, fun x hx hf => h.blk x hx fun hm => hf (hs x hm hx)⟩
theorem KB.push (F : List Nat) (h : Heap) (o : Obj) : KB F h (h.push o) :=
 ⟨by simp, fun b hb _ => by rw [Array.getElem?_push, if_neg (by omega)]⟩
theorem push_get (h : Heap) (o : Obj) : (h.push o)[h.size]? = some o := by simp
theorem hset_size (h : Heap) (a : Addr) (v : Value) : (hset h a v).size = h.size := by simp [hset]
theorem hset_get_ne (h : Heap) (a : Addr) (v : Value) {b : Nat} (hb : b ≠ a.block) : (hset h a v)[b]? = h[b]? := by
 simp only [hset, Array.getElem?_modify]
 rw [if_neg (by omega)]
theorem hset_get (h : Heap) {b o : Nat} (v : Value) {c : Array Value} {e : TypeId} {f : Nat × Nat} (hb : h[b]? = some (.cells c e f)) : (hset h ⟨b, o, none⟩ v)[b]? = some (.cells (c.setIfInBounds o v) e f) := by
 simp only [hset, Array.getElem?_modify]
 simp [hb]
theorem KB.hset {F : List Nat} {h : Heap} {a : Addr} {v : Value} (hb : a.block ∈ F) : KB F h (hset h a v) :=
 ⟨by rw [hset_size]; exact Nat.le_refl _, fun b _ hf => hset_get_ne h a v fun e => hf (e ▸ hb)⟩
theorem lt_of_get {h : Heap} {b : Nat} {o : Obj} (hb : h[b]? = some o) : b < h.size := (Array.getElem?_eq_some_iff.1 hb).1
theorem KB.get {F : List Nat} {h h' : Heap} (k : KB F h h') {b : Nat} {o : Obj} (hb : h[b]? = some o) (hf : b ∉ F) : h'[b]? = some o := by
 rw [k.blk b (lt_of_get hb) hf]; exact hb
theorem hcell_blk {h h' : Heap} {b : Nat} (hb : h'[b]? = h[b]?) (o : Nat) : hcell h' ⟨b, o, none⟩ = hcell h ⟨b, o, none⟩ := by unfold hcell; simp only [hb]
theorem hcell_lt {h : Heap} {b o : Nat} {v : Value} (hv : hcell h ⟨b, o, none⟩ = some v) : b < h.size := by
 unfold hcell at hv
 cases hb : h[b]? with
 | none => simp [hb] at hv
 | some x => exact lt_of_get hb
theorem KB.cell {F : List Nat} {h h' : Heap} (k : KB F h h') {b o : Nat} {v : Value} (hv : hcell h ⟨b, o, none⟩ = some v) (hf : b ∉ F) : hcell h' ⟨b, o, none⟩ = some v := by
 rw [hcell_blk (k.blk b (hcell_lt hv) hf)]; exact hv
theorem hcell_of {h : Heap} {b : Nat} {c : Array Value} {e : TypeId} {f : Nat × Nat} (hb : h[b]? = some (.cells c e f)) (o : Nat) : hcell h ⟨b, o, none⟩ = c[o]? := by
 unfold hcell; simp [hb]
theorem hfroz_of {h : Heap} {b : Nat} {c : Array Value} {e : TypeId} (hb : h[b]? = some (.cells c e (0, 0))) (o : Nat) : hfroz h ⟨b, o, none⟩ = false := by
 unfold hfroz; simp [hb]
theorem newB_intro {h : Heap} {o : Obj} {K : Nat → Heap → Prop} (hK : ∀ h1 : Heap, h1[h.size]? = some o → KB [] h h1 → h1.size = h.size + 1 → K h.size h1) : newB h o K :=
 hK _ (push_get h o) (.push _ h o) (by simp)
theorem stK_blk {h : Heap} {b o : Nat} {v : Value} {K : Heap → Prop} {c : Array Value} {e : TypeId} (hb : h[b]? = some (.cells c e (0, 0))) (ho : o < c.size) (hv : single v = true)
 (hK : ∀ h' : Heap, h'[b]? = some (.cells (c.setIfInBounds o v) e (0, 0)) → KB [b] h h' → h'.size = h.size → K h') : stK h ⟨b, o, none⟩ v K :=
 ⟨hv, ⟨c[o], by rw [hcell_of hb]; simp [ho]⟩, hfroz_of hb o, hK _ (hset_get h v hb) (.hset (by simp)) (hset_size _ _ _)⟩
theorem storeS_blk {b : Nat} {e : TypeId} : ∀ {vs : List Value} {o i : Nat} {h : Heap} {K : Heap → Prop} {l : List Value}, h[b]? = some (.cells l.toArray e (0, 0)) → o + i + vs.length ≤ l.length → (∀ v ∈ vs, single v = true) →
 (∀ h' : Heap, h'[b]? = some (.cells (splice l (o + i) vs).toArray e (0, 0)) → KB [b] h h' → h'.size = h.size → K h') → storeS b o vs i h K
 | [], o, i, h, K, l, hb, _, _, hK => hK h (by rw [splice_nil]; exact hb) (.refl _ _) rfl
 | v :: vs, o, i, h, K, l, hb, hl, hv, hK => by
   simp only [List.length_cons] at hl
   show stK h ⟨b, addO o i, none⟩ v _
   rw [addO_eq]
   refine stK_blk hb (by simp; omega) (hv v (by simp)) fun h1 h1b k1 s1 => ?_
   refine storeS_blk (e := e) (l := l.set (o + i) v) (by rw [h1b]; simp) (by simp; omega) (fun u hu => hv u (by simp [hu])) fun h2 h2b k2 s2 => ?_
   refine hK h2 ?_ (k1.trans k2) (s2.trans s1)
   rw [h2b, splice_cons _ _ _ _ (by omega)]
   rfl
def OwnS (B : Nat) (e : TypeId) (sz : Nat) (h : Heap) (a : Option Addr) (n c : Nat) (cs : List Value) : Prop :=
 (a = none ∧ n = 0 ∧ c = 0 ∧ cs = []) ∨ ∃ (b : Nat) (l : Array Value), a = some ⟨b, 0, none⟩ ∧ B ≤ b ∧ h[b]? = some (.cells l e (0, 0)) ∧ l.size = c * sz ∧ (n ≤ c ∧ c ≤ 9223372036854775807) ∧ cs.length = n * sz ∧ ∀ (j : Nat) (v : Value), cs[j]? = some v → l[j]? = some v
theorem OwnS.nil (B : Nat) (e : TypeId) (sz : Nat) (h : Heap) : OwnS B e sz h none 0 0 [] := .inl ⟨rfl, rfl, rfl, rfl⟩
section
variable {P : Program}
theorem SWp_bind {α β : Type} {s : Sem α} {f : α → Sem β} {h : Heap} {K : β → Heap → Prop} : SWp P s h (fun a h' => SWp P (f a) h' K) → SWp P (s >>= f) h K := SWp.bind
theorem SWp_underlying {T : TypeId} {d : TypeDesc} (hd : P.underlying T = some d) {h : Heap} {K : TypeDesc → Heap → Prop} (hK : K d h) : SWp P (underlying T) h K := by
 show SWp P (match P.underlying T with | some d => pure d | none => stuck "no such type") h K
 rw [hd]; exact hK
theorem SWp_typeInfo {T : TypeId} {i : TypeInfo} (hi : P.info? T = some i) {h : Heap} {K : TypeInfo → Heap → Prop} (hK : K i h) : SWp P (typeInfo T) h K := by
 show SWp P (match P.info? T with | some i => pure i | none => stuck "no such type") h K
 rw [hi]; exact hK
theorem SWp_sizeOf {T : TypeId} {i : TypeInfo} (hi : P.info? T = some i) {h : Heap} {K : Nat → Heap → Prop} (hK : K i.size h) : SWp P (sizeOf T) h K :=
 SWp_bind (SWp_typeInfo hi hK)
theorem SWp_zero {T : TypeId} {i : TypeInfo} {z : Value} (hi : P.info? T = some i) (hz : i.zero = some z) {h : Heap} {K : Value → Heap → Prop} (hK : K z h) : SWp P (zeroValue T) h K := by
 refine SWp_bind (SWp_typeInfo hi ?_)
 rw [hz]; exact hK
theorem SWp_loadCells {b o : Nat} {h : Heap} : ∀ {vs : List Value} {i : Nat} {acc : Array Value} {K : Array Value → Heap → Prop}, (∀ j v, vs[j]? = some v → hcell h ⟨b, o + (i + j), none⟩ = some v) → K (acc ++ vs.toArray) h →
 SWp P (loadCellsFrom ⟨b, o, none⟩ i vs.length acc) h K
 | [], i, acc, K, _, hK => by show K acc h; simpa using hK
 | v :: vs, i, acc, K, hc, hK => by
   show SWp P (load ((⟨b, o, none⟩ : Addr).add i) >>= fun v => loadCellsFrom ⟨b, o, none⟩ (i + 1) vs.length (acc.push v)) h K
   refine SWp_bind ⟨v, ?_, ?_⟩
   · rw [add_plain]; simpa using hc 0 v rfl
   · refine SWp_loadCells (fun j u hu => ?_) (by simpa using hK)
     have := hc (j + 1) u (by simpa using hu)
     rw [show i + 1 + j = i + (j + 1) by omega]; exact this
theorem SWp_storeCells_blk {b : Nat} {e : TypeId} {vs l : List Value} {o : Nat} {h : Heap} {K : Unit → Heap → Prop} (hb : h[b]? = some (.cells l.toArray e (0, 0))) (hl : o + vs.length ≤ l.length) (hv : ∀ v ∈ vs, single v = true)
 (hK : ∀ h' : Heap, h'[b]? = some (.cells (splice l o vs).toArray e (0, 0)) → KB [b] h h' → h'.size = h.size → K () h') : SWp P (storeCells ⟨b, o, none⟩ vs) h K :=
 storeCells_spec (K := K ()) (storeS_blk (i := 0) hb (by omega) hv (by simpa using hK))
theorem SWp_askRoom {n : Nat} {h : Heap} {K : Unit → Heap → Prop} (hK : K () h) : SWp P (askRoom n) h K := by
 unfold askRoom
 split
 · exact hK
 · exact hK
def ownB (a : Option Addr) : List Nat :=
 match a with
 | some x => [x.block]
 | none => []
theorem splice_get : ∀ (l : List Value) (o : Nat) (vs : List Value) (j : Nat), o + vs.length ≤ l.length → (splice l o vs)[j]? = if j < o then l[j]? else if j < o + vs.length then vs[j - o]? else l[j]?
 | l, o, [], j, _ => by
   rw [splice_nil]
   by_cases h1 : j < o
   · rw [if_pos h1]
   · rw [if_neg h1, if_neg (by simp only [List.length_nil]; omega)]
 | [], o, v :: vs, j, h => by simp at h
 | x :: l, 0, v :: vs, 0, _ => by simp [splice]
 | x :: l, 0, v :: vs, j + 1, h => by
   simp only [splice, List.getElem?_cons_succ, List.length_cons] at *
   rw [splice_get l 0 vs j (by omega)]
   simp only [Nat.not_lt_zero, if_false, Nat.zero_add, Nat.sub_zero]
   by_cases hj : j < vs.length
   · rw [if_pos hj, if_pos (by omega)]; simp
   · rw [if_neg hj, if_neg (by omega)]
 | x :: l, o + 1, v :: vs, 0, _ => by simp [splice]
 | x :: l, o + 1, v :: vs, j + 1, h => by
   have hh : o + (v :: vs).length ≤ l.length := by simp only [List.length_cons] at *; omega
   simp only [splice, List.getElem?_cons_succ]
   rw [splice_get l o (v :: vs) j hh]
   by_cases h1 : j < o
   · rw [if_pos h1, if_pos (show j + 1 < o + 1 by omega)]
   · rw [if_neg h1, if_neg (show ¬ j + 1 < o + 1 by omega)]
     by_cases h2 : j < o + (v :: vs).length
     · rw [if_pos h2, if_pos (by omega), show j + 1 - (o + 1) = j - o by omega]
     · rw [if_neg h2, if_neg (by omega)]
theorem growBy_le {n : Nat} : ∀ (r c : Nat), Builtin.growBy n r c ≤ c ∨ Builtin.growBy n r c ≤ n + (n + 768) / 4
 | 0, c => .inl (Nat.le_refl _)
 | r + 1, c => by
   unfold Builtin.growBy
   split
   · exact .inl (Nat.le_refl _)
   · rename_i h
     rcases growBy_le (n := n) r (c + (c + 768) / 4) with h1 | h1
     · exact .inr (by omega)
     · exact .inr h1
theorem nextslicecap_le {n c : Nat} (h : c < n) : Builtin.nextslicecap n c ≤ 2 * n + 512 := by
 unfold Builtin.nextslicecap
 split
 · omega
 · split
   · omega
   · rcases growBy_le (n := n) 4 c with h1 | h1 <;> omega
theorem app_own {B : Nat} {T E : TypeId} {i : TypeInfo} {z : Value} {h : Heap} {a : Option Addr} {n c m cx b2 o2 : Nat} {cs new : List Value} {K : Value → Heap → Prop}
 (hu : P.underlying T = some (.slice E)) (hi : P.info? E = some i) (hz : i.zero = some z) (hzs : z.cells.size = i.size) (hb : i.bytes ≠ 0) (hown : OwnS B E i.size h a n c cs) (hB : B ≤ h.size)
 (hnew : ∀ j v, new[j]? = some v → hcell h ⟨b2, o2 + j, none⟩ = some v) (hlen : new.length = m * i.size) (hs : ∀ v ∈ new, single v = true) (hbd : (2 * (n + m) + 512) * i.bytes ≤ 281474976710656)
 (hK : ∀ (a' : Option Addr) (c' : Nat) (h' : Heap), OwnS B E i.size h' a' (n + m) c' (cs ++ new) → KB (ownB a) h h' → (∀ b o, a' = some ⟨b, o, none⟩ → b ∈ ownB a ∨ h.size ≤ b) → K (.slice a' (n + m) c') h') :
 appK P #[T, T] T (.slice a n c) (.slice (some ⟨b2, o2, none⟩) m cx) h K := by
 unfold appK
 have hfc : ∀ {K' : Array Value → Heap → Prop}, K' new.toArray h → SWp P (Builtin.firstCells i.size m (.slice (some ⟨b2, o2, none⟩) m cx)) h K' := by
  intro K' hK'
  show SWp P (loadCells ⟨b2, o2, none⟩ (m * i.size)) h K'
  rw [← hlen]
  exact SWp_loadCells (fun j v hv => by simpa using hnew j v hv) (by simpa using hK')
 show SWp P (underlying T >>= _) h K
 refine SWp_bind (SWp_underlying hu ?_)
 refine SWp_bind (SWp_sizeOf hi ?_)
 refine SWp_bind (SWp_bind (SWp_underlying hu ?_))
 refine SWp_bind ?_
 show SWp P (Builtin.lenOf (.slice (some ⟨b2, o2, none⟩) m cx) >>= _) h K
 refine SWp_bind ?_
 show SWp P (if n + m ≤ c then _ else _) h K
 by_cases hcap : n + m ≤ c
 · rw [if_pos hcap]
   refine SWp_bind (hfc ?_)
   rcases hown with ⟨rfl, rfl, rfl, rfl⟩ | ⟨b, l, rfl, h1, h2, h3, h4, h5, h6⟩
   · have hm : m = 0 := by omega
     subst hm
     have hn0 : new = [] := List.eq_nil_of_length_eq_zero (by simpa using hlen)
     subst hn0
     exact hK none 0 h (.nil _ _ _ _) (.refl _ _) fun b o hbo => by cases hbo
   · show SWp P (storeCells ((⟨b, 0, none⟩ : Addr).add (n * i.size)) new.toArray.toList >>= _) h K
     rw [add_plain, Nat.zero_add]
     have hsz : n * i.size + new.length ≤ l.toList.length := by
      rw [hlen, ← Nat.add_mul, Array.length_toList, h3]; exact Nat.mul_le_mul_right _ hcap
     refine SWp_bind (SWp_storeCells_blk (l := l.toList) (by simpa using h2) (by simpa using hsz) hs fun h' h1b k1 s1 => ?_)
     refine hK (some ⟨b, 0, none⟩) c h' (.inr ⟨b, _, rfl, h1, h1b, ?_, ⟨hcap, h4.2⟩, ?_, ?_⟩) k1 fun b' o' hbo => .inl (by cases hbo; simp [ownB])
     · simp [splice_length, h3]
     · simp [h5, hlen, Nat.add_mul]
     · intro j v hv
       simp only [List.getElem?_toArray]
       rw [splice_get _ _ _ _ hsz]
       by_cases hj : j < n * i.size
       · rw [if_pos hj]
         rw [List.getElem?_append_left (by omega)] at hv
         simpa using h6 j v hv
       · rw [if_neg hj]
         rw [List.getElem?_append_right (by omega), h5] at hv
         rw [if_pos (by have := (List.getElem?_eq_some_iff.1 hv).1; omega)]
         exact hv
 · rw [if_neg hcap]
   refine SWp_bind (SWp_typeInfo hi ?_)
   rw [if_neg (by rintro ⟨-, h1 | h1⟩; exact absurd h1 (by simp); exact hb h1)]
   refine SWp_bind ?_
   refine SWp_bind (SWp_typeInfo hi ?_)
   have hcap2 : ¬ Builtin.nextslicecap (n + m) c * i.bytes > 2 ^ 48 := by
    have h1 := nextslicecap_le (n := n + m) (c := c) (by omega)
    have h2 := Nat.mul_le_mul_right i.bytes h1
    omega
   rw [if_neg hcap2]
   refine SWp_bind ?_
   refine ⟨fun hf => (by cases hf), fun _ t => ?_⟩
   have hge : n + m ≤ (Question.appendCap (n + m) c E).cut t ∧ (Question.appendCap (n + m) c E).cut t ≤ 9223372036854775807 := by
    have hbig : n + m < 2 ^ 63 := by
     have : 2 * (n + m) + 512 ≤ (2 * (n + m) + 512) * i.bytes := Nat.le_mul_of_pos_right _ (Nat.pos_of_ne_zero hb)
     omega
    have := Nat.mod_lt t (show 2 ^ 63 - (n + m) > 0 by omega)
    simp only [Question.cut]
    omega
   generalize (Question.appendCap (n + m) c E).cut t = c' at hge ⊢
   refine SWp_bind (SWp_typeInfo hi ?_)
   refine SWp_bind (SWp_askRoom ?_)
   have hold : ∀ {K' : Array Value → Heap → Prop}, K' cs.toArray h → SWp P (Builtin.firstCells i.size n (.slice a n c)) h K' := by
    intro K' hK'
    rcases hown with ⟨rfl, rfl, rfl, rfl⟩ | ⟨b, l, rfl, h1, h2, h3, h4, h5, h6⟩
    · exact hK'
    · show SWp P (loadCells ⟨b, 0, none⟩ (n * i.size)) h K'
      rw [← h5]
      exact SWp_loadCells (fun j v hv => by rw [hcell_of h2, Nat.zero_add, Nat.zero_add]; exact h6 j v hv) (by simpa using hK')
   refine SWp_bind (hold ?_)
   refine SWp_bind ?_
   show SWp P (Builtin.firstCells i.size m (.slice (some ⟨b2, o2, none⟩) m cx)) h _
   refine hfc ?_
   refine SWp_bind (SWp_zero hi hz ?_)
   have hcn : cs.length = n * i.size := by
    rcases hown with ⟨rfl, rfl, rfl, rfl⟩ | ⟨b, l, rfl, h1, h2, h3, h4, h5, h6⟩
    · simp
    · exact h5
   refine hK (some ⟨h.size, 0, none⟩) c' (h.push (.cells (cs.toArray ++ new.toArray ++ Builtin.zeroCells z.cells (c' - (n + m))) E)) (.inr ⟨h.size, _, rfl, hB, push_get _ _, ?_, hge, ?_, ?_⟩) (.push _ _ _) fun b o hbo => .inr (by cases hbo; exact Nat.le_refl _)
   · simp only [Array.size_append, List.size_toArray, Builtin.zeroCells, Array.size_map, Array.size_range, hcn, hlen, hzs]
     rw [← Nat.add_mul, ← Nat.add_mul, show n + m + (c' - (n + m)) = c' by omega]
   · simp [hcn, hlen, Nat.add_mul]
   · intro j v hv
     have hj := (List.getElem?_eq_some_iff.1 hv).1
     rw [Array.getElem?_append_left (by simpa using hj)]
     simpa using hv
end
end Go.Proofs.YtaogfopaalancaaDoor
/- The engine, part h: maps with integer keys: looking up, storing, deleting, ranging. -/
namespace Go.Proofs.YtaogfopaalancaaDoor
open Go
section
variable {P : Program}
end
end Go.Proofs.YtaogfopaalancaaDoor
/- Texts in parts. -/
set_option linter.unusedVariables false
namespace Go.Proofs.YtaogfopaalancaaDoor
open Go Go.Lib
def splitA (c : UInt8) : Bs → Bs → List Bs
 | p, [] => [p]
 | p, b :: l => if b = c then p :: splitA c [] l else splitA c (p ++ [b]) l
abbrev splitC (c : UInt8) (l : Bs) : List Bs := splitA c [] l
def cutA (c : UInt8) : Bs → Bs → Bs × Bs × Bool
 | p, [] => (p, [], false)
 | p, b :: l => if b = c then (p, l, true) else cutA c (p ++ [b]) l
abbrev cutC (c : UInt8) (l : Bs) : Bs × Bs × Bool := cutA c [] l
theorem idx1 (c b : UInt8) (l : Bs) : index (b :: l) [c] = if b = c then 0 else if index l [c] == -1 then -1 else index l [c] + 1 := by
 rw [index]
 have : ([c] : Bs).isPrefixOf (b :: l) = (c == b) := by simp [List.isPrefixOf]
 rw [this]
 by_cases h : b = c
 · subst h; simp
 · rw [if_neg h, if_neg (by simpa using Ne.symm h)]
theorem split_idx (c : UInt8) : ∀ (l p : Bs), (index l [c] = -1 ∧ splitA c p l = [p ++ l] ∧ cutA c p l = (p ++ l, [], false)) ∨
 ∃ j : Nat, index l [c] = j ∧ splitA c p l = (p ++ l.take j) :: splitA c [] (l.drop (j + 1)) ∧ cutA c p l = (p ++ l.take j, l.drop (j + 1), true)
 | [], p => .inl ⟨by simp [index], by simp [splitA], by simp [cutA]⟩
 | b :: l, p => by
   rw [idx1, splitA, cutA]
   by_cases h : b = c
   · exact .inr ⟨0, by rw [if_pos h]; rfl, by rw [if_pos h]; simp, by rw [if_pos h]; simp⟩
   · rw [if_neg h, if_neg h, if_neg h]
     rcases split_idx c l (p ++ [b]) with ⟨h1, h2, h3⟩ | ⟨j, h1, h2, h3⟩
     · exact .inl ⟨by rw [h1]; rfl, by rw [h2]; simp, by rw [h3]; simp⟩
     · refine .inr ⟨j + 1, ?_, by rw [h2]; simp, by rw [h3]; simp⟩
       rw [h1, if_neg (fun e => by have := beq_iff_eq.1 e; omega)]; rfl
theorem cut_lib (c : UInt8) (l : Bs) : cut l [c] = cutC c l := by
 unfold cut
 rcases split_idx c l [] with ⟨h1, h2, h3⟩ | ⟨j, h1, h2, h3⟩
 · rw [h1, cutC, h3, if_neg (by decide)]; rfl
 · rw [h1, cutC, h3, if_pos (by omega)]; simp
theorem split_lib (c : UInt8) : ∀ (n : Nat) (l : Bs), l.length ≤ n → splitK [c] 0 (count l [c]) l = splitC c l ∧ count l [c] + 1 = (splitC c l).length
 | n, l, hn => by
   rcases split_idx c l [] with ⟨h1, h2, h3⟩ | ⟨j, h1, h2, h3⟩
   · rw [count_miss h1, splitC, h2]; exact ⟨rfl, rfl⟩
   · have hr := index_room l [c] (by omega)
     simp only [List.length_cons, List.length_nil, h1] at hr
     rw [count_hit (by simp) h1, splitC, h2]
     cases n with
     | zero => omega
     | succ n =>
       obtain ⟨g1, g2⟩ := split_lib c n (l.drop (j + 1)) (by simp; omega)
       rw [Nat.add_comm 1, splitK, if_neg (fun e => by have := beq_iff_eq.1 e; omega)]
       simp only [h1, Int.toNat_natCast, Nat.add_zero, List.length_cons, List.length_nil, Nat.zero_add, List.nil_append]
       exact ⟨by rw [g1], by rw [g2]⟩
def wordsL (l : Bs) : List Bs := (splitC 32 l).filter fun p => !p.isEmpty
theorem splitA_app (c : UInt8) : ∀ (u v p : Bs), c ∉ u → splitA c p (u ++ c :: v) = (p ++ u) :: splitA c [] v
 | [], v, p, h => by simp [splitA]
 | b :: u, v, p, h => by
   rw [List.cons_append, splitA, if_neg (fun e => h (by simp [e])), splitA_app c u v _ (fun hm => h (by simp [hm]))]
   simp
theorem splitA_all (c : UInt8) : ∀ (u p : Bs), c ∉ u → splitA c p u = [p ++ u]
 | [], p, h => by simp [splitA]
 | b :: u, p, h => by
   rw [splitA, if_neg (fun e => h (by simp [e])), splitA_all c u _ (fun hm => h (by simp [hm]))]
   simp
theorem words_app {u v : Bs} (h : (32 : UInt8) ∉ u) : wordsL (u ++ 32 :: v) = (if u = [] then [] else [u]) ++ wordsL v := by
 unfold wordsL
 rw [splitC, splitA_app 32 u v [] h]
 cases u <;> simp
theorem words_all {u : Bs} (h : (32 : UInt8) ∉ u) : wordsL u = if u = [] then [] else [u] := by
 unfold wordsL
 rw [splitC, splitA_all 32 u [] h]
 cases u <;> simp
theorem words_sp (l : Bs) : wordsL (l ++ [32]) = wordsL l := by
 have key : ∀ (l p : Bs), (splitA 32 p (l ++ [32])).filter (fun p => !p.isEmpty) = (splitA 32 p l).filter fun p => !p.isEmpty := by
  intro l
  induction l with
  | nil => intro p; cases p <;> simp [splitA]
  | cons b l ih =>
    intro p
    rw [List.cons_append, splitA, splitA]
    split
    · simp only [List.filter_cons, ih]
    · exact ih _
 exact key l []
end Go.Proofs.YtaogfopaalancaaDoor
/-
 DERIVED: THE SHELF's CONTRACTS AT THIS DUMP, IN PLAIN WORDS (tools/lay-plain.mjs out of 'YtaogfopaalancaaDoordx.lean', which tools/lay-shelf.mjs wrote): THE SAME DECLARATIONS UNDER THE SAME NAMES: 'import', 'namespace', 'open', 'def', 'theorem' AND NOTHING ELSE: no command of the shelf's: FOR A HAND-IN. Each laying: the table of numbers ('.._ren') and one theorem, a field a fact of the dump's own or the kernel's comparison; each contract: ONE APPLICATION.
-/
namespace Go.Proofs
open Go.Shelf
def Tryd.laysM146_ren : Go.Shelf.Ren := ⟨fun | 146 => 53 | 221 => 71 | 268 => 87 | 138 => 88 | 143 => 89 | 195 => 92 | 197 => 93 | 218 => 94 | 219 => 52 | 260 => 95 | 217 => 67 | 225 => 68 | 224 => 69 | 267 => 70 | 266 => 85 | 314 => 86 | n => n, fun | 9 => 9 | 31 => 39 | 3 => 3 | 4 => 4 | 0 => 0 | 105 => 143 | 21 => 21 | 5 => 5 | 46 => 90 | 119 => 72 | 139 => 149 | 138 => 148 | 146 => 134 | 51 => 102 | n => n, fun | 1 => 2 | 3 => 8 | 4 => 9 | n => n⟩
theorem Tryd.laysM146 : Go.Proofs.LaysM.n146 Tryd.prog Tryd.laysM146_ren := {
 mixed := by kernel_rfl
 f138 := Tryd.func88.trans (congrArg some (by kernel_rfl))
 f143 := Tryd.func89.trans (congrArg some (by kernel_rfl))
 f146 := Tryd.func53.trans (congrArg some (by kernel_rfl))
 f195 := Tryd.func92.trans (congrArg some (by kernel_rfl))
 f197 := Tryd.func93.trans (congrArg some (by kernel_rfl))
 f217 := Tryd.func67.trans (congrArg some (by kernel_rfl))
 f218 := Tryd.func94.trans (congrArg some (by kernel_rfl))
 f219 := Tryd.func52.trans (congrArg some (by kernel_rfl))
 f221 := Tryd.func71.trans (congrArg some (by kernel_rfl))
 f224 := Tryd.func69.trans (congrArg some (by kernel_rfl))
 f225 := Tryd.func68.trans (congrArg some (by kernel_rfl))
 f260 := Tryd.func95.trans (congrArg some (by kernel_rfl))
 f266 := Tryd.func85.trans (congrArg some (by kernel_rfl))
 f267 := Tryd.func70.trans (congrArg some (by kernel_rfl))
 f268 := Tryd.func87.trans (congrArg some (by kernel_rfl))
 f314 := Tryd.func86.trans (congrArg some (by kernel_rfl))
 t0 := Tryd.underlying0
 a0 := Tryd.isAgg0
 z0 := Tryd.sizeOf0
 v0 := Tryd.zeroValue0
 t3 := Tryd.underlying3
 a3 := Tryd.isAgg3
 z3 := Tryd.sizeOf3
 v3 := Tryd.zeroValue3
 t4 := Tryd.underlying4
 a4 := Tryd.isAgg4
 z4 := Tryd.sizeOf4
 v4 := Tryd.zeroValue4
 t5 := Tryd.underlying5
 a5 := Tryd.isAgg5
 z5 := Tryd.sizeOf5
 v5 := Tryd.zeroValue5
 t9 := Tryd.underlying9
 a9 := Tryd.isAgg9
 z9 := Tryd.sizeOf9
 v9 := Tryd.zeroValue9
 t21 := Tryd.underlying21
 a21 := Tryd.isAgg21
 z21 := Tryd.sizeOf21
 v21 := Tryd.zeroValue21
 t31 := Tryd.underlying39
 a31 := Tryd.isAgg39
 z31 := Tryd.sizeOf39
 v31 := Tryd.zeroValue39
 t46 := Tryd.underlying90
 a46 := Tryd.isAgg90
 z46 := Tryd.sizeOf90
 v46 := Tryd.zeroValue90
 t51 := Tryd.underlying102
 a51 := Tryd.isAgg102
 z51 := Tryd.sizeOf102
 v51 := Tryd.zeroValue102
 t105 := Tryd.underlying143
 a105 := Tryd.isAgg143
 z105 := Tryd.sizeOf143
 v105 := Tryd.zeroValue143
 t119 := Tryd.underlying72
 a119 := Tryd.isAgg72
 z119 := Tryd.sizeOf72
 t138 := Tryd.underlying148
 a138 := Tryd.isAgg148
 z138 := Tryd.sizeOf148
 v138 := Tryd.zeroValue148
 t139 := Tryd.underlying149
 a139 := Tryd.isAgg149
 z139 := Tryd.sizeOf149
 v139 := Tryd.zeroValue149
 t146 := Tryd.underlying134
 a146 := Tryd.isAgg134
 z146 := Tryd.sizeOf134
 v146 := Tryd.zeroValue134
 g1 := by kernel_rfl
 g3 := by kernel_rfl
 g4 := by kernel_rfl
 i0 := by kernel_rfl
 i3 := by kernel_rfl
 i4 := by kernel_rfl
 i5 := by kernel_rfl
 i9 := by kernel_rfl
 i21 := by kernel_rfl
 i31 := by kernel_rfl
 i46 := by kernel_rfl
 i51 := by kernel_rfl
 i105 := by kernel_rfl
 i138 := by kernel_rfl
 i139 := by kernel_rfl
 i146 := by kernel_rfl
 m1 := by kernel_rfl
 s1_3 := fun w h => Go.Proofs.cell_of_shapedOpen_int (zero := #[.int .i64 0]) (t := 3) h (of_decide_eq_true (by kernel_rfl)) (by kernel_rfl) rfl (by kernel_rfl) (by kernel_rfl) Tryd.underlying3
 m3 := by kernel_rfl
 m4 := by kernel_rfl }
def Tryd.lays145_ren : Go.Shelf.Ren := ⟨fun | 145 => 24 | 220 => 40 | 219 => 52 | 217 => 67 | 225 => 68 | 224 => 69 | 267 => 70 | 266 => 85 | 314 => 86 | n => n, fun | 9 => 9 | 4 => 4 | 59 => 46 | 3 => 3 | 5 => 5 | 46 => 90 | 146 => 134 | 51 => 102 | n => n, fun | 1 => 2 | n => n⟩
theorem Tryd.lays145 : Go.Proofs.Lays.n145 Tryd.prog Tryd.lays145_ren := {
 mixed := by kernel_rfl
 f145 := Tryd.func24.trans (congrArg some (by kernel_rfl))
 f217 := Tryd.func67.trans (congrArg some (by kernel_rfl))
 f219 := Tryd.func52.trans (congrArg some (by kernel_rfl))
 f220 := Tryd.func40.trans (congrArg some (by kernel_rfl))
 f224 := Tryd.func69.trans (congrArg some (by kernel_rfl))
 f225 := Tryd.func68.trans (congrArg some (by kernel_rfl))
 f266 := Tryd.func85.trans (congrArg some (by kernel_rfl))
 f267 := Tryd.func70.trans (congrArg some (by kernel_rfl))
 f314 := Tryd.func86.trans (congrArg some (by kernel_rfl))
 t3 := Tryd.underlying3
 a3 := Tryd.isAgg3
 z3 := Tryd.sizeOf3
 v3 := Tryd.zeroValue3
 t4 := Tryd.underlying4
 a4 := Tryd.isAgg4
 z4 := Tryd.sizeOf4
 v4 := Tryd.zeroValue4
 t5 := Tryd.underlying5
 a5 := Tryd.isAgg5
 z5 := Tryd.sizeOf5
 v5 := Tryd.zeroValue5
 t9 := Tryd.underlying9
 a9 := Tryd.isAgg9
 z9 := Tryd.sizeOf9
 v9 := Tryd.zeroValue9
 t46 := Tryd.underlying90
 a46 := Tryd.isAgg90
 z46 := Tryd.sizeOf90
 v46 := Tryd.zeroValue90
 t51 := Tryd.underlying102
 a51 := Tryd.isAgg102
 z51 := Tryd.sizeOf102
 v51 := Tryd.zeroValue102
 t59 := Tryd.underlying46
 a59 := Tryd.isAgg46
 z59 := Tryd.sizeOf46
 v59 := Tryd.zeroValue46
 t146 := Tryd.underlying134
 a146 := Tryd.isAgg134
 z146 := Tryd.sizeOf134
 v146 := Tryd.zeroValue134
 g1 := by kernel_rfl }
def Tryd.laysM157_ren : Go.Shelf.Ren := ⟨fun | 157 => 30 | 229 => 46 | 199 => 47 | 261 => 64 | 311 => 81 | 312 => 82 | n => n, fun | 9 => 9 | 31 => 39 | 3 => 3 | 5 => 5 | 4 => 4 | 119 => 72 | 0 => 0 | 40 => 74 | 152 => 99 | 21 => 21 | 154 => 101 | 51 => 102 | 141 => 104 | 196 => 123 | 193 => 120 | 198 => 126 | 49 => 124 | 194 => 121 | 201 => 129 | 226 => 141 | 46 => 90 | 227 => 142 | n => n, fun | 0 => 0 | 6 => 1 | n => n⟩
theorem Tryd.laysM157 : Go.Proofs.LaysM.n157 Tryd.prog Tryd.laysM157_ren := {
 mixed := by kernel_rfl
 f157 := Tryd.func30.trans (congrArg some (by kernel_rfl))
 f199 := Tryd.func47.trans (congrArg some (by kernel_rfl))
 f229 := Tryd.func46.trans (congrArg some (by kernel_rfl))
 f261 := Tryd.func64.trans (congrArg some (by kernel_rfl))
 f311 := Tryd.func81.trans (congrArg some (by kernel_rfl))
 f312 := Tryd.func82.trans (congrArg some (by kernel_rfl))
 t0 := Tryd.underlying0
 a0 := Tryd.isAgg0
 z0 := Tryd.sizeOf0
 v0 := Tryd.zeroValue0
 t3 := Tryd.underlying3
 a3 := Tryd.isAgg3
 z3 := Tryd.sizeOf3
 v3 := Tryd.zeroValue3
 t4 := Tryd.underlying4
 a4 := Tryd.isAgg4
 z4 := Tryd.sizeOf4
 v4 := Tryd.zeroValue4
 t5 := Tryd.underlying5
 a5 := Tryd.isAgg5
 z5 := Tryd.sizeOf5
 v5 := Tryd.zeroValue5
 t9 := Tryd.underlying9
 a9 := Tryd.isAgg9
 z9 := Tryd.sizeOf9
 v9 := Tryd.zeroValue9
 t21 := Tryd.underlying21
 a21 := Tryd.isAgg21
 z21 := Tryd.sizeOf21
 v21 := Tryd.zeroValue21
 t31 := Tryd.underlying39
 a31 := Tryd.isAgg39
 z31 := Tryd.sizeOf39
 v31 := Tryd.zeroValue39
 t40 := Tryd.underlying74
 a40 := Tryd.isAgg74
 z40 := Tryd.sizeOf74
 v40 := Tryd.zeroValue74
 t46 := Tryd.underlying90
 a46 := Tryd.isAgg90
 z46 := Tryd.sizeOf90
 v46 := Tryd.zeroValue90
 t49 := Tryd.underlying124
 a49 := Tryd.isAgg124
 z49 := Tryd.sizeOf124
 v49 := Tryd.zeroValue124
 t51 := Tryd.underlying102
 a51 := Tryd.isAgg102
 z51 := Tryd.sizeOf102
 v51 := Tryd.zeroValue102
 t119 := Tryd.underlying72
 a119 := Tryd.isAgg72
 z119 := Tryd.sizeOf72
 t141 := Tryd.underlying104
 a141 := Tryd.isAgg104
 z141 := Tryd.sizeOf104
 v141 := Tryd.zeroValue104
 t152 := Tryd.underlying99
 a152 := Tryd.isAgg99
 z152 := Tryd.sizeOf99
 v152 := Tryd.zeroValue99
 t154 := Tryd.underlying101
 a154 := Tryd.isAgg101
 z154 := Tryd.sizeOf101
 v154 := Tryd.zeroValue101
 t193 := Tryd.underlying120
 a193 := Tryd.isAgg120
 z193 := Tryd.sizeOf120
 v193 := Tryd.zeroValue120
 t194 := Tryd.underlying121
 a194 := Tryd.isAgg121
 z194 := Tryd.sizeOf121
 v194 := Tryd.zeroValue121
 t196 := Tryd.underlying123
 a196 := Tryd.isAgg123
 z196 := Tryd.sizeOf123
 v196 := Tryd.zeroValue123
 t198 := Tryd.underlying126
 a198 := Tryd.isAgg126
 z198 := Tryd.sizeOf126
 v198 := Tryd.zeroValue126
 t201 := Tryd.underlying129
 a201 := Tryd.isAgg129
 z201 := Tryd.sizeOf129
 v201 := Tryd.zeroValue129
 t226 := Tryd.underlying141
 a226 := Tryd.isAgg141
 z226 := Tryd.sizeOf141
 v226 := Tryd.zeroValue141
 t227 := Tryd.underlying142
 a227 := Tryd.isAgg142
 z227 := Tryd.sizeOf142
 v227 := Tryd.zeroValue142
 g0 := by kernel_rfl
 g6 := by kernel_rfl
 i0 := by kernel_rfl
 i3 := by kernel_rfl
 i4 := by kernel_rfl
 i5 := by kernel_rfl
 i9 := by kernel_rfl
 i21 := by kernel_rfl
 i31 := by kernel_rfl
 i40 := by kernel_rfl
 i46 := by kernel_rfl
 i49 := by kernel_rfl
 i51 := by kernel_rfl
 i141 := by kernel_rfl
 i152 := by kernel_rfl
 i154 := by kernel_rfl
 i193 := by kernel_rfl
 i194 := by kernel_rfl
 i196 := by kernel_rfl
 i198 := by kernel_rfl
 i201 := by kernel_rfl
 i226 := by kernel_rfl
 i227 := by kernel_rfl
 m0 := by kernel_rfl
 m6 := by kernel_rfl }
def Tryd.lays156_ren : Go.Shelf.Ren := ⟨fun | 156 => 35 | 165 => 49 | 166 => 50 | 169 => 51 | 240 => 65 | 241 => 66 | 276 => 83 | 277 => 84 | n => n, fun | 31 => 39 | 9 => 9 | 3 => 3 | 4 => 4 | 0 => 0 | 20 => 20 | 72 => 78 | 76 => 80 | 70 => 76 | 37 => 67 | 75 => 54 | 127 => 105 | 164 => 131 | 5 => 5 | 80 => 82 | n => n, fun | n => n⟩
theorem Tryd.lays156 : Go.Proofs.Lays.n156 Tryd.prog Tryd.lays156_ren := {
 mixed := by kernel_rfl
 f156 := Tryd.func35.trans (congrArg some (by kernel_rfl))
 f165 := Tryd.func49.trans (congrArg some (by kernel_rfl))
 f166 := Tryd.func50.trans (congrArg some (by kernel_rfl))
 f169 := Tryd.func51.trans (congrArg some (by kernel_rfl))
 f240 := Tryd.func65.trans (congrArg some (by kernel_rfl))
 f241 := Tryd.func66.trans (congrArg some (by kernel_rfl))
 f276 := Tryd.func83.trans (congrArg some (by kernel_rfl))
 f277 := Tryd.func84.trans (congrArg some (by kernel_rfl))
 t0 := Tryd.underlying0
 a0 := Tryd.isAgg0
 z0 := Tryd.sizeOf0
 v0 := Tryd.zeroValue0
 t3 := Tryd.underlying3
 a3 := Tryd.isAgg3
 z3 := Tryd.sizeOf3
 v3 := Tryd.zeroValue3
 t4 := Tryd.underlying4
 a4 := Tryd.isAgg4
 z4 := Tryd.sizeOf4
 v4 := Tryd.zeroValue4
 t9 := Tryd.underlying9
 a9 := Tryd.isAgg9
 z9 := Tryd.sizeOf9
 v9 := Tryd.zeroValue9
 t20 := Tryd.underlying20
 a20 := Tryd.isAgg20
 z20 := Tryd.sizeOf20
 v20 := Tryd.zeroValue20
 t31 := Tryd.underlying39
 a31 := Tryd.isAgg39
 z31 := Tryd.sizeOf39
 v31 := Tryd.zeroValue39
 t37 := Tryd.underlying67
 a37 := Tryd.isAgg67
 z37 := Tryd.sizeOf67
 v37 := Tryd.zeroValue67
 t70 := Tryd.underlying76
 a70 := Tryd.isAgg76
 z70 := Tryd.sizeOf76
 v70 := Tryd.zeroValue76
 t72 := Tryd.underlying78
 a72 := Tryd.isAgg78
 z72 := Tryd.sizeOf78
 v72 := Tryd.zeroValue78
 t75 := Tryd.underlying54
 a75 := Tryd.isAgg54
 z75 := Tryd.sizeOf54
 v75 := Tryd.zeroValue54
 t76 := Tryd.underlying80
 a76 := Tryd.isAgg80
 z76 := Tryd.sizeOf80
 v76 := Tryd.zeroValue80
 t127 := Tryd.underlying105
 a127 := Tryd.isAgg105
 z127 := Tryd.sizeOf105
 v127 := Tryd.zeroValue105
 t164 := Tryd.underlying131
 a164 := Tryd.isAgg131
 z164 := Tryd.sizeOf131
 v164 := Tryd.zeroValue131 }
theorem Tryd.Builder_Extra_156 : Builder.Extra Tryd.prog Tryd.lays156_ren := {
 sizeBuilder := by kernel_rfl
 liesBuilder := by kernel_rfl
 t5 := Tryd.underlying5
 a5 := Tryd.isAgg5
 z5 := Tryd.sizeOf5
 v5 := Tryd.zeroValue5
 infoByte := by kernel_rfl
 cellsByte := by kernel_rfl
 sizeByte := by kernel_rfl
 neB5 := by decide }
def Tryd.laysM173_ren : Go.Shelf.Ren := ⟨fun | 173 => 29 | 246 => 45 | 283 => 60 | 284 => 61 | 285 => 62 | 286 => 63 | 129 => 77 | 317 => 76 | 318 => 78 | 319 => 79 | 320 => 80 | 337 => 90 | 338 => 91 | n => n, fun | 2 => 2 | 3 => 3 | 9 => 9 | 4 => 4 | 171 => 94 | 0 => 0 | 53 => 87 | 37 => 67 | 5 => 5 | 173 => 97 | 212 => 116 | 51 => 102 | 20 => 20 | 213 => 117 | 46 => 90 | 232 => 145 | 233 => 146 | n => n, fun | 17 => 5 | 18 => 6 | 19 => 7 | n => n⟩
theorem Tryd.laysM173 : Go.Proofs.LaysM.n173 Tryd.prog Tryd.laysM173_ren := {
 mixed := by kernel_rfl
 f129 := Tryd.func77.trans (congrArg some (by kernel_rfl))
 f173 := Tryd.func29.trans (congrArg some (by kernel_rfl))
 f246 := Tryd.func45.trans (congrArg some (by kernel_rfl))
 f283 := Tryd.func60.trans (congrArg some (by kernel_rfl))
 f284 := Tryd.func61.trans (congrArg some (by kernel_rfl))
 f285 := Tryd.func62.trans (congrArg some (by kernel_rfl))
 f286 := Tryd.func63.trans (congrArg some (by kernel_rfl))
 f317 := Tryd.func76.trans (congrArg some (by kernel_rfl))
 f318 := Tryd.func78.trans (congrArg some (by kernel_rfl))
 f319 := Tryd.func79.trans (congrArg some (by kernel_rfl))
 f320 := Tryd.func80.trans (congrArg some (by kernel_rfl))
 f337 := Tryd.func90.trans (congrArg some (by kernel_rfl))
 f338 := Tryd.func91.trans (congrArg some (by kernel_rfl))
 t0 := Tryd.underlying0
 a0 := Tryd.isAgg0
 z0 := Tryd.sizeOf0
 v0 := Tryd.zeroValue0
 t2 := Tryd.underlying2
 a2 := Tryd.isAgg2
 z2 := Tryd.sizeOf2
 v2 := Tryd.zeroValue2
 t3 := Tryd.underlying3
 a3 := Tryd.isAgg3
 z3 := Tryd.sizeOf3
 v3 := Tryd.zeroValue3
 t4 := Tryd.underlying4
 a4 := Tryd.isAgg4
 z4 := Tryd.sizeOf4
 v4 := Tryd.zeroValue4
 t5 := Tryd.underlying5
 a5 := Tryd.isAgg5
 z5 := Tryd.sizeOf5
 v5 := Tryd.zeroValue5
 t9 := Tryd.underlying9
 a9 := Tryd.isAgg9
 z9 := Tryd.sizeOf9
 v9 := Tryd.zeroValue9
 t20 := Tryd.underlying20
 a20 := Tryd.isAgg20
 z20 := Tryd.sizeOf20
 v20 := Tryd.zeroValue20
 t37 := Tryd.underlying67
 a37 := Tryd.isAgg67
 z37 := Tryd.sizeOf67
 v37 := Tryd.zeroValue67
 t46 := Tryd.underlying90
 a46 := Tryd.isAgg90
 z46 := Tryd.sizeOf90
 v46 := Tryd.zeroValue90
 t51 := Tryd.underlying102
 a51 := Tryd.isAgg102
 z51 := Tryd.sizeOf102
 v51 := Tryd.zeroValue102
 t53 := Tryd.underlying87
 a53 := Tryd.isAgg87
 z53 := Tryd.sizeOf87
 v53 := Tryd.zeroValue87
 t171 := Tryd.underlying94
 a171 := Tryd.isAgg94
 z171 := Tryd.sizeOf94
 v171 := Tryd.zeroValue94
 t173 := Tryd.underlying97
 a173 := Tryd.isAgg97
 z173 := Tryd.sizeOf97
 v173 := Tryd.zeroValue97
 t212 := Tryd.underlying116
 a212 := Tryd.isAgg116
 z212 := Tryd.sizeOf116
 v212 := Tryd.zeroValue116
 t213 := Tryd.underlying117
 a213 := Tryd.isAgg117
 z213 := Tryd.sizeOf117
 t232 := Tryd.underlying145
 a232 := Tryd.isAgg145
 z232 := Tryd.sizeOf145
 v232 := Tryd.zeroValue145
 t233 := Tryd.underlying146
 a233 := Tryd.isAgg146
 z233 := Tryd.sizeOf146
 v233 := Tryd.zeroValue146
 g17 := by kernel_rfl
 g18 := by kernel_rfl
 g19 := by kernel_rfl
 i0 := by kernel_rfl
 i2 := by kernel_rfl
 i3 := by kernel_rfl
 i4 := by kernel_rfl
 i5 := by kernel_rfl
 i9 := by kernel_rfl
 i20 := by kernel_rfl
 i37 := by kernel_rfl
 i46 := by kernel_rfl
 i51 := by kernel_rfl
 i53 := by kernel_rfl
 i171 := by kernel_rfl
 i173 := by kernel_rfl
 i212 := by kernel_rfl
 i232 := by kernel_rfl
 i233 := by kernel_rfl
 m17 := by kernel_rfl
 m18 := by kernel_rfl
 m19 := by kernel_rfl }
def Tryd.laysM171_ren : Go.Shelf.Ren := ⟨fun | 171 => 14 | 243 => 34 | 246 => 45 | 283 => 60 | 284 => 61 | 285 => 62 | 286 => 63 | 129 => 77 | 317 => 76 | 318 => 78 | 319 => 79 | 320 => 80 | 337 => 90 | 338 => 91 | n => n, fun | 3 => 3 | 9 => 9 | 2 => 2 | 4 => 4 | 171 => 94 | 0 => 0 | 53 => 87 | 37 => 67 | 5 => 5 | 173 => 97 | 212 => 116 | 51 => 102 | 20 => 20 | 213 => 117 | 46 => 90 | 232 => 145 | 233 => 146 | n => n, fun | 17 => 5 | 18 => 6 | 19 => 7 | n => n⟩
theorem Tryd.laysM171 : Go.Proofs.LaysM.n171 Tryd.prog Tryd.laysM171_ren := {
 mixed := by kernel_rfl
 f129 := Tryd.func77.trans (congrArg some (by kernel_rfl))
 f171 := Tryd.func14.trans (congrArg some (by kernel_rfl))
 f243 := Tryd.func34.trans (congrArg some (by kernel_rfl))
 f246 := Tryd.func45.trans (congrArg some (by kernel_rfl))
 f283 := Tryd.func60.trans (congrArg some (by kernel_rfl))
 f284 := Tryd.func61.trans (congrArg some (by kernel_rfl))
 f285 := Tryd.func62.trans (congrArg some (by kernel_rfl))
 f286 := Tryd.func63.trans (congrArg some (by kernel_rfl))
 f317 := Tryd.func76.trans (congrArg some (by kernel_rfl))
 f318 := Tryd.func78.trans (congrArg some (by kernel_rfl))
 f319 := Tryd.func79.trans (congrArg some (by kernel_rfl))
 f320 := Tryd.func80.trans (congrArg some (by kernel_rfl))
 f337 := Tryd.func90.trans (congrArg some (by kernel_rfl))
 f338 := Tryd.func91.trans (congrArg some (by kernel_rfl))
 t0 := Tryd.underlying0
 a0 := Tryd.isAgg0
 z0 := Tryd.sizeOf0
 v0 := Tryd.zeroValue0
 t2 := Tryd.underlying2
 a2 := Tryd.isAgg2
 z2 := Tryd.sizeOf2
 v2 := Tryd.zeroValue2
 t3 := Tryd.underlying3
 a3 := Tryd.isAgg3
 z3 := Tryd.sizeOf3
 v3 := Tryd.zeroValue3
 t4 := Tryd.underlying4
 a4 := Tryd.isAgg4
 z4 := Tryd.sizeOf4
 v4 := Tryd.zeroValue4
 t5 := Tryd.underlying5
 a5 := Tryd.isAgg5
 z5 := Tryd.sizeOf5
 v5 := Tryd.zeroValue5
 t9 := Tryd.underlying9
 a9 := Tryd.isAgg9
 z9 := Tryd.sizeOf9
 v9 := Tryd.zeroValue9
 t20 := Tryd.underlying20
 a20 := Tryd.isAgg20
 z20 := Tryd.sizeOf20
 v20 := Tryd.zeroValue20
 t37 := Tryd.underlying67
 a37 := Tryd.isAgg67
 z37 := Tryd.sizeOf67
 v37 := Tryd.zeroValue67
 t46 := Tryd.underlying90
 a46 := Tryd.isAgg90
 z46 := Tryd.sizeOf90
 v46 := Tryd.zeroValue90
 t51 := Tryd.underlying102
 a51 := Tryd.isAgg102
 z51 := Tryd.sizeOf102
 v51 := Tryd.zeroValue102
 t53 := Tryd.underlying87
 a53 := Tryd.isAgg87
 z53 := Tryd.sizeOf87
 v53 := Tryd.zeroValue87
 t171 := Tryd.underlying94
 a171 := Tryd.isAgg94
 z171 := Tryd.sizeOf94
 v171 := Tryd.zeroValue94
 t173 := Tryd.underlying97
 a173 := Tryd.isAgg97
 z173 := Tryd.sizeOf97
 v173 := Tryd.zeroValue97
 t212 := Tryd.underlying116
 a212 := Tryd.isAgg116
 z212 := Tryd.sizeOf116
 v212 := Tryd.zeroValue116
 t213 := Tryd.underlying117
 a213 := Tryd.isAgg117
 z213 := Tryd.sizeOf117
 t232 := Tryd.underlying145
 a232 := Tryd.isAgg145
 z232 := Tryd.sizeOf145
 v232 := Tryd.zeroValue145
 t233 := Tryd.underlying146
 a233 := Tryd.isAgg146
 z233 := Tryd.sizeOf146
 v233 := Tryd.zeroValue146
 g17 := by kernel_rfl
 g18 := by kernel_rfl
 g19 := by kernel_rfl
 i0 := by kernel_rfl
 i2 := by kernel_rfl
 i3 := by kernel_rfl
 i4 := by kernel_rfl
 i5 := by kernel_rfl
 i9 := by kernel_rfl
 i20 := by kernel_rfl
 i37 := by kernel_rfl
 i46 := by kernel_rfl
 i51 := by kernel_rfl
 i53 := by kernel_rfl
 i171 := by kernel_rfl
 i173 := by kernel_rfl
 i212 := by kernel_rfl
 i232 := by kernel_rfl
 i233 := by kernel_rfl
 m17 := by kernel_rfl
 m18 := by kernel_rfl
 m19 := by kernel_rfl }
def Tryd.laysC174_ren : Go.Shelf.Ren := ⟨fun | 174 => 28 | 247 => 43 | 245 => 44 | 287 => 55 | 279 => 56 | 280 => 57 | 281 => 58 | 282 => 59 | 321 => 72 | 322 => 73 | 316 => 74 | 171 => 14 | 205 => 75 | 243 => 34 | 246 => 45 | 283 => 60 | 284 => 61 | 285 => 62 | 286 => 63 | 129 => 77 | 317 => 76 | 318 => 78 | 319 => 79 | 320 => 80 | 337 => 90 | 338 => 91 | n => n, fun | 9 => 9 | 3 => 3 | 2 => 2 | 75 => 54 | 85 => 55 | 4 => 4 | 167 => 86 | 5 => 5 | 53 => 87 | 175 => 88 | 46 => 90 | 168 => 91 | 37 => 67 | 0 => 0 | 210 => 113 | 21 => 21 | 127 => 105 | 145 => 139 | 143 => 137 | 171 => 94 | 173 => 97 | 212 => 116 | 51 => 102 | 20 => 20 | 213 => 117 | 232 => 145 | 233 => 146 | 80 => 82 | n => n, fun | 15 => 3 | 16 => 4 | 17 => 5 | 18 => 6 | 19 => 7 | n => n⟩
theorem Tryd.laysC174 : Go.Proofs.LaysC.n174 Tryd.prog Tryd.laysC174_ren := {
 mixed := by kernel_rfl
 f129 := Tryd.func77.trans (congrArg some (by kernel_rfl))
 f171 := Tryd.func14.trans (congrArg some (by kernel_rfl))
 f174 := Tryd.func28.trans (congrArg some (by kernel_rfl))
 f205 := Tryd.func75.trans (congrArg some (by kernel_rfl))
 f243 := Tryd.func34.trans (congrArg some (by kernel_rfl))
 f245 := Tryd.func44.trans (congrArg some (by kernel_rfl))
 f246 := Tryd.func45.trans (congrArg some (by kernel_rfl))
 f247 := Tryd.func43.trans (congrArg some (by kernel_rfl))
 f279 := Tryd.func56.trans (congrArg some (by kernel_rfl))
 f280 := Tryd.func57.trans (congrArg some (by kernel_rfl))
 f281 := Tryd.func58.trans (congrArg some (by kernel_rfl))
 f282 := Tryd.func59.trans (congrArg some (by kernel_rfl))
 f283 := Tryd.func60.trans (congrArg some (by kernel_rfl))
 f284 := Tryd.func61.trans (congrArg some (by kernel_rfl))
 f285 := Tryd.func62.trans (congrArg some (by kernel_rfl))
 f286 := Tryd.func63.trans (congrArg some (by kernel_rfl))
 f287 := Tryd.func55.trans (congrArg some (by kernel_rfl))
 f316 := Tryd.func74.trans (congrArg some (by kernel_rfl))
 f317 := Tryd.func76.trans (congrArg some (by kernel_rfl))
 f318 := Tryd.func78.trans (congrArg some (by kernel_rfl))
 f319 := Tryd.func79.trans (congrArg some (by kernel_rfl))
 f320 := Tryd.func80.trans (congrArg some (by kernel_rfl))
 f321 := Tryd.func72.trans (congrArg some (by kernel_rfl))
 f322 := Tryd.func73.trans (congrArg some (by kernel_rfl))
 f337 := Tryd.func90.trans (congrArg some (by kernel_rfl))
 f338 := Tryd.func91.trans (congrArg some (by kernel_rfl))
 t0 := Tryd.underlying0
 a0 := Tryd.isAgg0
 z0 := Tryd.sizeOf0
 v0 := Tryd.zeroValue0
 t2 := Tryd.underlying2
 a2 := Tryd.isAgg2
 z2 := Tryd.sizeOf2
 v2 := Tryd.zeroValue2
 t3 := Tryd.underlying3
 a3 := Tryd.isAgg3
 z3 := Tryd.sizeOf3
 v3 := Tryd.zeroValue3
 t4 := Tryd.underlying4
 a4 := Tryd.isAgg4
 z4 := Tryd.sizeOf4
 v4 := Tryd.zeroValue4
 t5 := Tryd.underlying5
 a5 := Tryd.isAgg5
 z5 := Tryd.sizeOf5
 v5 := Tryd.zeroValue5
 t9 := Tryd.underlying9
 a9 := Tryd.isAgg9
 z9 := Tryd.sizeOf9
 v9 := Tryd.zeroValue9
 t20 := Tryd.underlying20
 a20 := Tryd.isAgg20
 z20 := Tryd.sizeOf20
 v20 := Tryd.zeroValue20
 t21 := Tryd.underlying21
 a21 := Tryd.isAgg21
 z21 := Tryd.sizeOf21
 v21 := Tryd.zeroValue21
 t37 := Tryd.underlying67
 a37 := Tryd.isAgg67
 z37 := Tryd.sizeOf67
 v37 := Tryd.zeroValue67
 t46 := Tryd.underlying90
 a46 := Tryd.isAgg90
 z46 := Tryd.sizeOf90
 v46 := Tryd.zeroValue90
 t51 := Tryd.underlying102
 a51 := Tryd.isAgg102
 z51 := Tryd.sizeOf102
 v51 := Tryd.zeroValue102
 t53 := Tryd.underlying87
 a53 := Tryd.isAgg87
 z53 := Tryd.sizeOf87
 v53 := Tryd.zeroValue87
 t75 := Tryd.underlying54
 a75 := Tryd.isAgg54
 z75 := Tryd.sizeOf54
 v75 := Tryd.zeroValue54
 t85 := Tryd.underlying55
 a85 := Tryd.isAgg55
 z85 := Tryd.sizeOf55
 v85 := Tryd.zeroValue55
 t127 := Tryd.underlying105
 a127 := Tryd.isAgg105
 z127 := Tryd.sizeOf105
 v127 := Tryd.zeroValue105
 t143 := Tryd.underlying137
 a143 := Tryd.isAgg137
 z143 := Tryd.sizeOf137
 v143 := Tryd.zeroValue137
 t145 := Tryd.underlying139
 a145 := Tryd.isAgg139
 z145 := Tryd.sizeOf139
 v145 := Tryd.zeroValue139
 t167 := Tryd.underlying86
 a167 := Tryd.isAgg86
 z167 := Tryd.sizeOf86
 v167 := Tryd.zeroValue86
 t168 := Tryd.underlying91
 a168 := Tryd.isAgg91
 z168 := Tryd.sizeOf91
 v168 := Tryd.zeroValue91
 t171 := Tryd.underlying94
 a171 := Tryd.isAgg94
 z171 := Tryd.sizeOf94
 v171 := Tryd.zeroValue94
 t173 := Tryd.underlying97
 a173 := Tryd.isAgg97
 z173 := Tryd.sizeOf97
 v173 := Tryd.zeroValue97
 t175 := Tryd.underlying88
 a175 := Tryd.isAgg88
 z175 := Tryd.sizeOf88
 v175 := Tryd.zeroValue88
 t210 := Tryd.underlying113
 a210 := Tryd.isAgg113
 z210 := Tryd.sizeOf113
 v210 := Tryd.zeroValue113
 t212 := Tryd.underlying116
 a212 := Tryd.isAgg116
 z212 := Tryd.sizeOf116
 v212 := Tryd.zeroValue116
 t213 := Tryd.underlying117
 a213 := Tryd.isAgg117
 z213 := Tryd.sizeOf117
 t232 := Tryd.underlying145
 a232 := Tryd.isAgg145
 z232 := Tryd.sizeOf145
 v232 := Tryd.zeroValue145
 t233 := Tryd.underlying146
 a233 := Tryd.isAgg146
 z233 := Tryd.sizeOf146
 v233 := Tryd.zeroValue146
 g15 := by kernel_rfl
 g16 := by kernel_rfl
 g17 := by kernel_rfl
 g18 := by kernel_rfl
 g19 := by kernel_rfl
 t80 := Tryd.underlying82
 a80 := Tryd.isAgg82
 z80 := Tryd.sizeOf82
 v80 := Tryd.zeroValue82
 i0 := by kernel_rfl
 i2 := by kernel_rfl
 i3 := by kernel_rfl
 i4 := by kernel_rfl
 i5 := by kernel_rfl
 i9 := by kernel_rfl
 i20 := by kernel_rfl
 i21 := by kernel_rfl
 i37 := by kernel_rfl
 i46 := by kernel_rfl
 i51 := by kernel_rfl
 i53 := by kernel_rfl
 i75 := by kernel_rfl
 i80 := by kernel_rfl
 i85 := by kernel_rfl
 i127 := by kernel_rfl
 i143 := by kernel_rfl
 i145 := by kernel_rfl
 i167 := by kernel_rfl
 i168 := by kernel_rfl
 i171 := by kernel_rfl
 i173 := by kernel_rfl
 i175 := by kernel_rfl
 i210 := by kernel_rfl
 i212 := by kernel_rfl
 i232 := by kernel_rfl
 i233 := by kernel_rfl
 m15 := by kernel_rfl
 m16 := by kernel_rfl
 m17 := by kernel_rfl
 m18 := by kernel_rfl
 m19 := by kernel_rfl
 c0 := by kernel_rfl
 c2 := by kernel_rfl
 c3 := by kernel_rfl
 c4 := by kernel_rfl
 c5 := by kernel_rfl
 c9 := by kernel_rfl
 c20 := by kernel_rfl
 c21 := by kernel_rfl
 c37 := by kernel_rfl
 c46 := by kernel_rfl
 c51 := by kernel_rfl
 c53 := by kernel_rfl
 c75 := by kernel_rfl
 c80 := by kernel_rfl
 c85 := by kernel_rfl
 c127 := by kernel_rfl
 c143 := by kernel_rfl
 c145 := by kernel_rfl
 c167 := by kernel_rfl
 c168 := by kernel_rfl
 c171 := by kernel_rfl
 c173 := by kernel_rfl
 c175 := by kernel_rfl
 c210 := by kernel_rfl
 c212 := by kernel_rfl
 c213 := by kernel_rfl
 c232 := by kernel_rfl
 c233 := by kernel_rfl }
end Go.Proofs
/- Maps, part b: keys that are a number, a text, or several numbers (an array, a struct): how the model finds them. -/
set_option linter.unusedVariables false
namespace Go.Proofs.YtaogfopaalancaaDoor
open Go
inductive MK where
 | n (x : Int)
 | s (b : ByteArray)
 | a (l : List Int)
deriving DecidableEq
def mkV : MK → Value
 | .n x => .int .i64 x
 | .s b => .string b
 | .a l => .agg (l.map (Value.int .i64)).toArray
inductive KT where
 | n
 | s
 | a (w : Nat)
def isI (P : Program) (T : TypeId) : Bool :=
 match P.underlying T with
 | some (.int .i64) => true
 | _ => false
def intFs (P : Program) : List Field → Nat → Bool
 | [], _ => true
 | f :: l, i => (f.offset == i) && (f.name != "_") && isI P f.type && intFs P l (i + 1)
def ktOf (P : Program) (K : TypeId) : Option KT :=
 match P.underlying K with
 | some (.int .i64) => some .n
 | some .string => some .s
 | some (.array n e) => cond (isI P e && (match P.info? e with | some i => Nat.beq i.size 1 | none => false)) (some (.a n)) none
 | some (.struct fs) => cond (intFs P fs.toList 0 && !P.stoodInHeld K) (some (.a fs.size)) none
 | _ => none
def KT.has : KT → MK → Bool
 | .n, .n _ => true
 | .s, .s _ => true
 | .a w, .a l => Nat.beq l.length w
 | _, _ => false
theorem isI_iff {P : Program} {T : TypeId} (h : isI P T = true) : P.underlying T = some (.int .i64) := by
 unfold isI at h
 split at h
 · assumption
 · cases h
theorem mkV_inj : ∀ {a b : MK}, mkV a = mkV b → a = b
 | .n x, .n y, h => by simp [mkV] at h; rw [h]
 | .s x, .s y, h => by simp [mkV] at h; rw [h]
 | .a x, .a y, h => by
   simp only [mkV, Value.agg.injEq] at h
   have h2 := congrArg Array.toList h
   simp only at h2
   have : x = y := by
    have inj : ∀ {x y : List Int}, x.map (Value.int .i64) = y.map (Value.int .i64) → x = y := by
     intro x
     induction x with
     | nil => intro y hh; cases y with | nil => rfl | cons _ _ => simp at hh
     | cons a x ih =>
       intro y hh
       cases y with
       | nil => simp at hh
       | cons b y => simp at hh; rw [hh.1, ih (by simpa using hh.2)]
    exact inj (by simpa using h2)
   rw [this]
 | .n _, .s _, h => by simp [mkV] at h
 | .n _, .a _, h => by simp [mkV] at h
 | .s _, .n _, h => by simp [mkV] at h
 | .s _, .a _, h => by simp [mkV] at h
 | .a _, .n _, h => by simp [mkV] at h
 | .a _, .s _, h => by simp [mkV] at h
section
variable {P : Program} {w : World}
theorem run_eqInt {T : TypeId} (hT : isI P T = true) (d : Nat) (a b : Int) : (Op.equalIn (d + 1) T (.int .i64 a) (.int .i64 b)).run P w = .ok (a == b) w := run_equalIn_int w d T _ _ _ _ (isI_iff hT)
theorem run_partInt {T : TypeId} (hT : isI P T = true) {cs : Array Value} {o : Nat} {v : Value} (hv : cs[o]? = some v) : (part T cs o).run P w = .ok v w :=
 run_part_flat (by rw [isI_iff hT]) hv w
theorem ints_get (l : List Int) (i : Nat) : (l.map (Value.int .i64)).toArray[i]? = (l[i]?).map (Value.int .i64) := by simp
theorem run_eqItemsI {e : TypeId} (hT : isI P e = true) (d : Nat) (a b : List Int) : ∀ (n s : Nat), s + n = a.length → a.length = b.length →
 (Op.eqItems (d + 1) e 1 (a.map (Value.int .i64)).toArray (b.map (Value.int .i64)).toArray (List.range' s n)).run P w = .ok (decide (a.drop s = b.drop s)) w
 | 0, s, h1, h2 => by
   rw [List.drop_eq_nil_of_le (by omega), List.drop_eq_nil_of_le (by omega)]
   simp [Op.eqItems]
 | n + 1, s, h1, h2 => by
   have ha : s < a.length := by omega
   have hb : s < b.length := by omega
   have ih := run_eqItemsI hT d a b n (s + 1) (by omega) h2
   have pa : (part e (a.map (Value.int .i64)).toArray (s * 1)).run P w = .ok (.int .i64 a[s]) w := run_partInt hT (by rw [Nat.mul_one, ints_get, List.getElem?_eq_getElem ha]; rfl)
   have pb : (part e (b.map (Value.int .i64)).toArray (s * 1)).run P w = .ok (.int .i64 b[s]) w := run_partInt hT (by rw [Nat.mul_one, ints_get, List.getElem?_eq_getElem hb]; rfl)
   simp only [List.range'_succ, Op.eqItems, Sem.run_bind, pa, pb, run_eqInt hT, Result.andThen_ok]
   rw [List.drop_eq_getElem_cons ha, List.drop_eq_getElem_cons hb]
   by_cases hab : a[s] = b[s]
   · simp only [hab, beq_self_eq_true, Bool.not_true, Bool.false_eq_true, if_false, ih, List.cons.injEq, true_and]
   · have : (a[s] == b[s]) = false := by simpa using hab
     simp only [this, Bool.not_false, if_true, Sem.run_pure, List.cons.injEq, hab, false_and, decide_false]
theorem run_eqFieldsI (d : Nat) (a b : List Int) : ∀ (fs : List Field) (i : Nat), intFs P fs i = true → i + fs.length = a.length → a.length = b.length →
 (Op.eqFields (d + 1) (a.map (Value.int .i64)).toArray (b.map (Value.int .i64)).toArray fs).run P w = .ok (decide (a.drop i = b.drop i)) w
 | [], i, hf, h1, h2 => by
   simp only [List.length_nil] at h1
   rw [List.drop_eq_nil_of_le (by omega), List.drop_eq_nil_of_le (by omega)]
   simp [Op.eqFields]
 | f :: fs, i, hf, h1, h2 => by
   simp only [intFs, Bool.and_eq_true, beq_iff_eq, bne_iff_ne] at hf
   obtain ⟨⟨⟨ho, hn⟩, hT⟩, hr⟩ := hf
   simp only [List.length_cons] at h1
   have ha : i < a.length := by omega
   have hb : i < b.length := by omega
   have ih := run_eqFieldsI d a b fs (i + 1) hr (by omega) h2
   have pa : (part f.type (a.map (Value.int .i64)).toArray i).run P w = .ok (.int .i64 a[i]) w := run_partInt hT (by rw [ints_get, List.getElem?_eq_getElem ha]; rfl)
   have pb : (part f.type (b.map (Value.int .i64)).toArray i).run P w = .ok (.int .i64 b[i]) w := run_partInt hT (by rw [ints_get, List.getElem?_eq_getElem hb]; rfl)
   simp only [Op.eqFields, if_pos hn, ho, Sem.run_bind, pa, pb, run_eqInt hT, Result.andThen_ok]
   rw [List.drop_eq_getElem_cons ha, List.drop_eq_getElem_cons hb]
   by_cases hab : a[i] = b[i]
   · simp only [hab, beq_self_eq_true, Bool.not_true, Bool.false_eq_true, if_false, ih, List.cons.injEq, true_and]
   · have : (a[i] == b[i]) = false := by simpa using hab
     simp only [this, Bool.not_false, if_true, Sem.run_pure, List.cons.injEq, hab, false_and, decide_false]
theorem run_eqKey {K : TypeId} {n : Nat} (hk : ktOf P K = some (.a n)) {a b : List Int} (h1 : a.length = n) (h2 : b.length = n) : (Op.equal K (mkV (.a a)) (mkV (.a b))).run P w = .ok (decide (a = b)) w := by
 unfold ktOf at hk
 unfold Op.equal Op.maxDepth mkV
 split at hk <;> try (cases hk; done)
 · rename_i m e hu
   cases hc : (isI P e && (match P.info? e with | some i => Nat.beq i.size 1 | none => false)) with
   | false => rw [hc] at hk; cases hk
   | true =>
     rw [hc] at hk
     simp only [cond_true, Option.some.injEq, KT.a.injEq] at hk
     subst hk
     simp only [Bool.and_eq_true] at hc
     obtain ⟨hT, hi⟩ := hc
     cases hinf : P.info? e with
     | none => rw [hinf] at hi; cases hi
     | some i =>
       rw [hinf] at hi
       have hsz : P.cellsOf e = 1 := by simp only [Program.cellsOf, hinf]; exact Nat.eq_of_beq_eq_true hi
       rw [show (10000 : Nat) = 9998 + 1 + 1 from rfl, run_equalIn_array w (9998 + 1) _ _ hu hinf, hsz, List.range_eq_range']
       have := run_eqItemsI (P := P) (w := w) hT 9998 a b m 0 (by omega) (by omega)
       simpa using this
 · rename_i fs hu
   cases hc : (intFs P fs.toList 0 && !P.stoodInHeld K) with
   | false => rw [hc] at hk; cases hk
   | true =>
     rw [hc] at hk
     simp only [cond_true, Option.some.injEq, KT.a.injEq] at hk
     subst hk
     simp only [Bool.and_eq_true, Bool.not_eq_true'] at hc
     have hfo : P.fieldsOf K = fs := by simp [Program.fieldsOf, hu]
     rw [show (10000 : Nat) = 9998 + 1 + 1 from rfl, run_equalIn_struct w (9998 + 1) K _ _ (by rw [hfo]; exact hu) hc.2, hfo]
     have := run_eqFieldsI (P := P) (w := w) 9998 a b fs.toList 0 hc.1 (by simpa using h1.symm) (by omega)
     simpa using this
end
def numFs (P : Program) (g : TypeId → Option Nat) : List Field → Nat → Option Nat
 | [], i => some i
 | f :: l, i => cond ((f.offset == i) && (f.name != "_")) (match g f.type with
   | some n => numFs P g l (i + n)
   | none => none) none
def numT (P : Program) : Nat → TypeId → Option Nat
 | 0, _ => none
 | d + 1, T => cond (isI P T) (some 1) (match P.underlying T, P.info? T with
   | some (.struct fs), some i => (match numFs P (numT P d) fs.toList 0 with
     | some n => cond (Nat.beq i.size n && !P.stoodInHeld T) (some n) none
     | none => none)
   | _, _ => none)
def valT (P : Program) (T : TypeId) (l : List Int) : Value := cond (isI P T) (match l with | [x] => .int .i64 x | _ => undef) (.agg (l.map (Value.int .i64)).toArray)
section
variable {P : Program} {w : World}
theorem numT_cases {d : Nat} {T : TypeId} {n : Nat} (h : numT P (d + 1) T = some n) : (isI P T = true ∧ n = 1) ∨ (isI P T = false ∧ ∃ fs i, P.underlying T = some (.struct fs) ∧ P.info? T = some i ∧ numFs P (numT P d) fs.toList 0 = some n ∧ i.size = n ∧ P.stoodInHeld T = false) := by
 unfold numT at h
 cases hi : isI P T with
 | true => rw [hi] at h; cases h; exact .inl ⟨rfl, rfl⟩
 | false =>
   rw [hi] at h
   simp only [cond_false] at h
   split at h
   · rename_i fs i hu hinf
     split at h
     · rename_i k hk
       cases hc : (Nat.beq i.size k && !P.stoodInHeld T) with
       | false => rw [hc] at h; cases h
       | true =>
         rw [hc] at h
         cases h
         simp only [Bool.and_eq_true, Bool.not_eq_true'] at hc
         exact .inr ⟨rfl, fs, i, hu, hinf, hk, Nat.eq_of_beq_eq_true hc.1, hc.2⟩
     · cases h
   · cases h
theorem run_partN {d : Nat} {T : TypeId} {n : Nat} (h : numT P d T = some n) {cs : List Int} {o : Nat} (ho : o + n ≤ cs.length) : (part T (cs.map (Value.int .i64)).toArray o).run P w = .ok (valT P T ((cs.drop o).take n)) w := by
 cases d with
 | zero => cases h
 | succ d =>
   rcases numT_cases h with ⟨hi, rfl⟩ | ⟨hi, fs, i, hu, hinf, -, hs, -⟩
   · rw [run_partInt (v := .int .i64 (cs[o]'(by omega))) hi (by rw [ints_get, List.getElem?_eq_getElem (by omega)]; rfl)]
     unfold valT
     rw [hi, List.drop_eq_getElem_cons (by omega)]
     rfl
   · unfold valT
     rw [hi]
     simp only [part, isAgg, sizeOf, typeInfo, Sem.run_bind, run_underlying hu, Result.andThen_ok, Sem.run_pure, run_program, hinf, if_true, hs, cond_false]
     congr 2
     apply Array.ext'
     simp [List.map_take, List.map_drop]
def EqN (P : Program) (d : Nat) : Prop := ∀ (T : TypeId) (n : Nat), numT P d T = some n → ∀ (D : Nat) (a b : List Int) (w : World), a.length = n → b.length = n → (Op.equalIn (D + d) T (valT P T a) (valT P T b)).run P w = .ok (decide (a = b)) w
theorem run_eqFieldsN {d : Nat} (IH : EqN P d) (D : Nat) (a b : List Int) : ∀ (fs : List Field) (i k : Nat), numFs P (numT P d) fs i = some k → k ≤ a.length → k ≤ b.length →
 i ≤ k ∧ (Op.eqFields (D + d) (a.map (Value.int .i64)).toArray (b.map (Value.int .i64)).toArray fs).run P w = .ok (decide ((a.take k).drop i = (b.take k).drop i)) w
 | [], i, k, hf, h1, h2 => by
   cases hf
   refine ⟨Nat.le_refl _, ?_⟩
   rw [List.drop_eq_nil_of_le (by simp; omega), List.drop_eq_nil_of_le (by simp; omega)]
   simp [Op.eqFields]
 | f :: fs, i, k, hf, h1, h2 => by
   simp only [numFs] at hf
   cases hc : ((f.offset == i) && (f.name != "_")) with
   | false => rw [hc] at hf; cases hf
   | true =>
     rw [hc] at hf
     simp only [cond_true] at hf
     simp only [Bool.and_eq_true, beq_iff_eq, bne_iff_ne] at hc
     obtain ⟨ho, hn⟩ := hc
     split at hf
     · rename_i n hT
       obtain ⟨hik, ih⟩ := run_eqFieldsN IH D a b fs (i + n) k hf h1 h2
       have pa := run_partN (P := P) (w := w) hT (cs := a) (o := i) (by omega)
       have pb := run_partN (P := P) (w := w) hT (cs := b) (o := i) (by omega)
       have la : ((a.drop i).take n).length = n := by simp; omega
       have lb : ((b.drop i).take n).length = n := by simp; omega
       have he := IH f.type n hT D _ _ w la lb
       refine ⟨by omega, ?_⟩
       simp only [Op.eqFields, if_pos hn, ho, Sem.run_bind, pa, pb, he, Result.andThen_ok]
       have sp : ∀ l : List Int, k ≤ l.length → (l.take k).drop i = (l.drop i).take n ++ (l.take k).drop (i + n) := fun l hl => by
        rw [← List.drop_drop]
        conv => lhs; rw [← List.take_append_drop n ((l.take k).drop i)]
        congr 1
        rw [List.drop_take, List.take_take, Nat.min_eq_left (by omega)]
       rw [sp a h1, sp b h2]
       by_cases hab : (a.drop i).take n = (b.drop i).take n
       · simp only [hab, decide_true, Bool.not_true, Bool.false_eq_true, if_false, ih, List.append_cancel_left_eq]
       · have : ¬ ((a.drop i).take n ++ (a.take k).drop (i + n) = (b.drop i).take n ++ (b.take k).drop (i + n)) := fun e => hab (List.append_inj_left e (by rw [la, lb]))
         simp only [hab, decide_false, Bool.not_false, if_true, Sem.run_pure, this]
     · cases hf
theorem eqN : ∀ d, EqN P d
 | 0 => fun T n h => by cases h
 | d + 1 => fun T n h D a b w h1 h2 => by
   rcases numT_cases h with ⟨hi, rfl⟩ | ⟨hi, fs, i, hu, hinf, hfs, hs, hst⟩
   · match a, b, h1, h2 with
     | [x], [y], _, _ =>
       unfold valT
       rw [hi]
       have := run_eqInt (P := P) (w := w) hi (D + d) x y
       simp only [cond_true]
       rw [show D + (d + 1) = D + d + 1 from rfl, this]
       congr 1
       by_cases e : x = y
       · subst e; simp
       · simp [e]
   · have hfo : P.fieldsOf T = fs := by simp [Program.fieldsOf, hu]
     unfold valT
     rw [hi]
     simp only [cond_false]
     rw [show D + (d + 1) = D + d + 1 from rfl, run_equalIn_struct w (D + d) T _ _ (by rw [hfo]; exact hu) hst, hfo]
     obtain ⟨-, this⟩ := run_eqFieldsN (P := P) (w := w) (eqN d) D a b fs.toList 0 n hfs (by omega) (by omega)
     rw [this, List.drop_zero, List.drop_zero, List.take_of_length_le (by omega), List.take_of_length_le (by omega)]
theorem run_eqNum {T : TypeId} {n : Nat} (hk : numT P 6 T = some n) (hI : isI P T = false) {a b : List Int} (h1 : a.length = n) (h2 : b.length = n) : (Op.equal T (mkV (.a a)) (mkV (.a b))).run P w = .ok (decide (a = b)) w := by
 have := eqN 6 T n hk 9994 a b w h1 h2
 unfold valT at this
 rw [hI] at this
 exact this
end
end Go.Proofs.YtaogfopaalancaaDoor
/- Maps, part c: a map's entries as a list; looked up, stored, taken away. -/
set_option linter.unusedVariables false
namespace Go.Proofs.YtaogfopaalancaaDoor
open Go Go.MapKept
abbrev MV := List (MK × Value)
def mIdx : MV → MK → Nat → Option (Nat × Value)
 | [], _, _ => none
 | p :: m, k, i => if p.1 = k then some (i, p.2) else mIdx m k (i + 1)
def mEnt (es : List MapEntry) (m : MV) : Prop := es.map (fun e => (e.key, e.val)) = m.map fun p => (mkV p.1, p.2)
theorem mEnt_nil {m : MV} (h : mEnt [] m) : m = [] := by unfold mEnt at h; cases m <;> simp at h ⊢
theorem mEnt_cons {e : MapEntry} {es : List MapEntry} {m : MV} (h : mEnt (e :: es) m) : ∃ p l, m = p :: l ∧ e.key = mkV p.1 ∧ e.val = p.2 ∧ mEnt es l := by
 cases m with
 | nil => simp [mEnt] at h
 | cons p l =>
   simp only [mEnt, List.map_cons, List.cons.injEq, Prod.mk.injEq] at h
   exact ⟨p, l, rfl, h.1.1, h.1.2, h.2⟩
theorem mEnt_len {es : List MapEntry} {m : MV} (h : mEnt es m) : es.length = m.length := by have := congrArg List.length h; simpa using this
theorem mEnt_get {es : List MapEntry} {m : MV} (h : mEnt es m) {i : Nat} {e : MapEntry} (hi : es[i]? = some e) : ∃ p, m[i]? = some p ∧ e.key = mkV p.1 ∧ e.val = p.2 := by
 have h2 := congrArg (fun l => l[i]?) h
 simp only [List.getElem?_map, hi, Option.map_some] at h2
 cases hm : m[i]? with
 | none => rw [hm] at h2; simp at h2
 | some p =>
   rw [hm] at h2
   simp only [Option.map_some, Option.some.injEq, Prod.mk.injEq] at h2
   exact ⟨p, rfl, h2.1, h2.2⟩
section
variable {P : Program} {w : World} {K : TypeId} {kt : KT}
theorem kt_n {k : MK} (h : KT.n.has k = true) : ∃ x, k = .n x := by cases k <;> simp [KT.has] at h; exact ⟨_, rfl⟩
theorem kt_s {k : MK} (h : KT.s.has k = true) : ∃ x, k = .s x := by cases k <;> simp [KT.has] at h; exact ⟨_, rfl⟩
theorem kt_a {n : Nat} {k : MK} (h : (KT.a n).has k = true) : ∃ l, k = .a l ∧ l.length = n := by
 cases k with
 | a l => exact ⟨l, rfl, Nat.eq_of_beq_eq_true h⟩
 | n x => simp [KT.has] at h
 | s x => simp [KT.has] at h
theorem ktOf_n (h : ktOf P K = some .n) : P.underlying K = some (.int .i64) := by
 unfold ktOf at h
 split at h
 · assumption
 · cases h
 · generalize (isI P _ && _) = c at h; cases c <;> simp at h
 · generalize (intFs P _ 0 && _) = c at h; cases c <;> simp at h
 · cases h
theorem ktOf_s (h : ktOf P K = some .s) : P.underlying K = some .string := by
 unfold ktOf at h
 split at h
 · cases h
 · assumption
 · generalize (isI P _ && _) = c at h; cases c <;> simp at h
 · generalize (intFs P _ 0 && _) = c at h; cases c <;> simp at h
 · cases h
theorem ktOf_a {n : Nat} (h : ktOf P K = some (.a n)) : (∃ e i, P.underlying K = some (.array n e) ∧ isI P e = true ∧ P.info? e = some i ∧ i.size = 1) ∨ ∃ fs, P.underlying K = some (.struct fs) ∧ intFs P fs.toList 0 = true ∧ fs.size = n := by
 unfold ktOf at h
 split at h
 · cases h
 · cases h
 · rename_i m e hu
   left
   generalize hc : (isI P e && _) = c at h
   cases c with
   | false => cases h
   | true =>
     simp only [cond_true, Option.some.injEq, KT.a.injEq] at h
     subst h
     simp only [Bool.and_eq_true] at hc
     obtain ⟨hT, hi⟩ := hc
     cases hinf : P.info? e with
     | none => rw [hinf] at hi; cases hi
     | some i => rw [hinf] at hi; exact ⟨e, i, hu, hT, hinf, Nat.eq_of_beq_eq_true hi⟩
 · rename_i fs hu
   right
   cases hc : (intFs P fs.toList 0 && !P.stoodInHeld K) with
   | false => rw [hc] at h; cases h
   | true =>
     rw [hc] at h
     simp only [cond_true, Option.some.injEq, KT.a.injEq] at h
     simp only [Bool.and_eq_true] at hc
     exact ⟨fs, hu, hc.1, h⟩
 · cases h
theorem run_checkInt {T : TypeId} (hT : isI P T = true) (em : Bool) (d : Nat) (x : Int) : (Instr.checkKey em (d + 1) T (.int .i64 x)).run P w = .ok () w :=
 run_checkKey (isI_iff hT) (show IsKey (.int .i64) (.int .i64 x) from rfl) em d
theorem run_checkK (hk : ktOf P K = some kt) {k : MK} (hx : kt.has k = true) (em : Bool) : (Instr.checkKey em 10000 K (mkV k)).run P w = .ok () w := by
 cases kt with
 | n => obtain ⟨x, rfl⟩ := kt_n hx; exact run_checkKey (ktOf_n hk) (show IsKey (.int .i64) (.int .i64 x) from rfl) em 9999
 | s => obtain ⟨x, rfl⟩ := kt_s hx; exact run_checkKey (ktOf_s hk) (show IsKey .string (.string x) from trivial) em 9999
 | a n =>
   obtain ⟨l, rfl, hl⟩ := kt_a hx
   rcases ktOf_a hk with ⟨e, i, hu, hT, hi, hs⟩ | ⟨fs, hu, hf, hs⟩
   · rw [show (10000 : Nat) = 9998 + 1 + 1 from rfl, Instr.checkKey]
     simp only [Sem.run_bind, run_underlying hu, Result.andThen_ok, mkV]
     simp only [Std.Legacy.Range.forIn_eq_forIn_range', Std.Legacy.Range.size, Nat.sub_zero, Nat.add_one_sub_one, Nat.div_one]
     have hsz : P.cellsOf e = 1 := by simp only [Program.cellsOf, hi]; exact hs
     have hj : ∀ j ∈ List.range' 0 n, j < l.length := fun j hj => by simp at hj; omega
     generalize List.range' 0 n = is at hj
     induction is with
     | nil => simp
     | cons j is ih =>
       have hlt := hj j (by simp)
       have pa : (part e (l.map (Value.int .i64)).toArray (j * 1)).run P w = .ok (.int .i64 l[j]) w := run_partInt hT (by rw [Nat.mul_one, ints_get, List.getElem?_eq_getElem hlt]; rfl)
       simp only [List.forIn_cons, Sem.run_bind, run_sizeOf w hi, hsz, Result.andThen_ok, pa, run_checkInt hT, Sem.run_pure]
       exact ih fun y hy => hj y (by simp [hy])
   · rw [show (10000 : Nat) = 9998 + 1 + 1 from rfl, Instr.checkKey]
     simp only [Sem.run_bind, run_underlying hu, Result.andThen_ok, mkV]
     rw [← Array.forIn_toList]
     have hll : 0 + fs.toList.length = l.length := by simp [hs, hl]
     clear hu hs hl
     generalize fs.toList = L at hf hll
     generalize 0 = i at hf hll
     induction L generalizing i with
     | nil => simp
     | cons f L ih =>
       simp only [intFs, Bool.and_eq_true, beq_iff_eq, bne_iff_ne] at hf
       obtain ⟨⟨⟨ho, hn⟩, hT⟩, hr⟩ := hf
       simp only [List.length_cons] at hll
       have hlt : i < l.length := by omega
       have pa : (part f.type (l.map (Value.int .i64)).toArray i).run P w = .ok (.int .i64 l[i]) w := run_partInt hT (by rw [ints_get, List.getElem?_eq_getElem hlt]; rfl)
       simp only [List.forIn_cons, Sem.run_bind, hn, ne_eq, not_false_eq_true, if_true, ho, Result.andThen_ok, pa, run_checkInt hT, Sem.run_pure]
       exact ih (i + 1) hr (by omega)
theorem run_askK {n : Nat} (hk : ktOf P K = some (.a n)) {k : MK} (hx : (KT.a n).has k = true) : ∀ (es : List MapEntry) (m : MV) (i : Nat), mEnt es m → (∀ p ∈ m, (KT.a n).has p.1 = true) → (Instr.findAsking K (mkV k) es i).run P w = .ok (mIdx m k i) w
 | [], m, i, he, _ => by rw [mEnt_nil he]; rfl
 | e :: es, m, i, he, hh => by
   obtain ⟨p, l, rfl, h1, h2, h3⟩ := mEnt_cons he
   obtain ⟨a, rfl, ha⟩ := kt_a hx
   obtain ⟨b, hb, hbl⟩ := kt_a (hh p (by simp))
   have ih := run_askK hk hx es l (i + 1) h3 fun q hq => hh q (by simp [hq])
   obtain ⟨pk, pv⟩ := p
   simp only at hb h1 h2
   subst hb
   simp only [Instr.findAsking, h1, h2, Sem.run_bind, run_eqKey hk ha hbl, Result.andThen_ok, mIdx]
   by_cases hab : a = b
   · subst hab; simp
   · have h4 : MK.a b ≠ MK.a a := fun e => hab (by injection e with e; exact e.symm)
     simp only [hab, decide_false, Bool.false_eq_true, if_false, h4, ih]
theorem now_spec {d : TypeDesc} (hd : ∀ k k' : MK, kt.has k = true → kt.has k' = true → Instr.sameNow d (mkV k) (mkV k') = some (decide (k' = k))) {k : MK} (hx : kt.has k = true) : ∀ (es : List MapEntry) (m : MV) (i : Nat), mEnt es m → (∀ p ∈ m, kt.has p.1 = true) → Instr.findNow d (mkV k) es i = some (mIdx m k i)
 | [], m, i, he, _ => by rw [mEnt_nil he]; rfl
 | e :: es, m, i, he, hh => by
   obtain ⟨p, l, rfl, h1, h2, h3⟩ := mEnt_cons he
   have ih := now_spec hd hx es l (i + 1) h3 fun q hq => hh q (by simp [hq])
   unfold Instr.findNow
   rw [h1, hd k p.1 hx (hh p (by simp))]
   simp only [mIdx]
   by_cases hpk : p.1 = k
   · simp [hpk, h2]
   · simp [hpk, ih]
theorem run_findK (hk : ktOf P K = some kt) {k : MK} (hx : kt.has k = true) {es : List MapEntry} {m : MV} (he : mEnt es m) (hh : ∀ p ∈ m, kt.has p.1 = true) : (Instr.findKey K (mkV k) es).run P w = .ok (mIdx m k 0) w := by
 cases kt with
 | n =>
   have hu := ktOf_n hk
   refine run_findKey hu (now_spec (fun a b ha hb => ?_) hx es m 0 he hh)
   obtain ⟨x, rfl⟩ := kt_n ha
   obtain ⟨y, rfl⟩ := kt_n hb
   simp only [mkV, Instr.sameNow, if_true, MK.n.injEq]
   congr 1
   by_cases hxy : x = y
   · simp [hxy]
   · simp [hxy, Ne.symm hxy]
 | s =>
   have hu := ktOf_s hk
   refine run_findKey hu (now_spec (fun a b ha hb => ?_) hx es m 0 he hh)
   obtain ⟨x, rfl⟩ := kt_s ha
   obtain ⟨y, rfl⟩ := kt_s hb
   simp only [mkV, Instr.sameNow, MK.s.injEq]
   congr 1
   by_cases hxy : x = y
   · rw [(bytes_beq x y).2 hxy]; simp [hxy]
   · have : (x == y) = false := by
      cases hc : (x == y) with
      | false => rfl
      | true => exact absurd ((bytes_beq x y).1 hc) hxy
     simp [this, Ne.symm hxy]
 | a n =>
   have hu : ∃ d, P.underlying K = some d ∧ ∀ e (es : List MapEntry), Instr.findNow d (mkV k) (e :: es) 0 = none := by
    obtain ⟨l, rfl, -⟩ := kt_a hx
    rcases ktOf_a hk with ⟨e, i, hu, -⟩ | ⟨fs, hu, -⟩
    · exact ⟨_, hu, fun e es => rfl⟩
    · exact ⟨_, hu, fun e es => rfl⟩
   obtain ⟨d, hu, hf⟩ := hu
   cases es with
   | nil => rw [mEnt_nil he]; exact run_findKey hu rfl
   | cons e es =>
     have := run_askK (P := P) (w := w) hk hx (e :: es) m 0 he hh
     simp [Instr.findKey, run_underlying hu, Result.andThen, hf, this]
theorem sameBits_k (k : MK) : Instr.sameBits 10000 (mkV k) (mkV k) = true := by
 cases k with
 | n x => simp [mkV, Instr.sameBits]
 | s x => simp only [mkV, Instr.sameBits]; exact (bytes_beq x x).2 rfl
 | a l =>
   rw [show (10000 : Nat) = 9999 + 1 from rfl]
   simp only [mkV, Instr.sameBits, beq_self_eq_true, Bool.true_and]
   induction l with
   | nil => rfl
   | cons x l ih =>
     simp only [List.map_cons, List.zip_cons_cons, List.all_cons, Bool.and_eq_true] at ih ⊢
     exact ⟨by simp [Instr.sameBits], ih⟩
theorem run_stays (k : MK) : (Instr.keyThatStays (mkV k) (mkV k)).run P w = .ok (mkV k) w := by
 unfold Instr.keyThatStays
 rw [if_pos (sameBits_k k)]
 rfl
end
end Go.Proofs.YtaogfopaalancaaDoor
/- What every frozen part of memory holds: the package-level variables that the library reads. -/
namespace Go.Proofs.YtaogfopaalancaaDoor
open Go
def GTab (f : Nat → Option Obj) (g : Nat) (k : IntKind) (zs : List Int) : Prop := ∃ T z, f g = some (.cells (zs.map (Value.int k)).toArray T z)
def GErr (f : Nat → Option Obj) (g : Nat) : Prop := ∃ t p T z, f g = some (.cells #[.iface t p] T z)
def GNum (f : Nat → Option Obj) (g : Nat) : Prop := ∃ n T z, f g = some (.cells #[.int .i64 n] T z)
structure Gl (f : Nat → Option Obj) : Prop where
 sp : GTab f 0 .u8 Lib.asciiSpaceTab
 pw : GTab f 5 .u64 Lib.pow10Tab
 es : GErr f 3
 er : GErr f 4
 ml : GNum f 2
theorem Gl.mono {f g : Nat → Option Obj} (h : Gl f) (l : ∀ b o, f b = some o → g b = some o) : Gl g :=
 let t : ∀ {b k zs}, GTab f b k zs → GTab g b k zs := fun ⟨T, z, e⟩ => ⟨T, z, l _ _ e⟩
 let e : ∀ {b}, GErr f b → GErr g b := fun ⟨t, p, T, z, e⟩ => ⟨t, p, T, z, l _ _ e⟩
 ⟨t h.sp, t h.pw, e h.es, e h.er, let ⟨n, T, z, e⟩ := h.ml; ⟨n, T, z, l _ _ e⟩⟩
class GlH (h : Heap) : Prop where
 g : Gl fun b => h[b]?
end Go.Proofs.YtaogfopaalancaaDoor
/- The logic, part a: blocks that one owns, in chunks; frozen blocks; data in frozen blocks. -/
set_option linter.unusedVariables false
namespace Go.Proofs.YtaogfopaalancaaDoor
open Go
abbrev Chunk := List (Nat × Obj)
structure Fz where
 f : Nat → Option Obj
 gl : Gl f
instance : CoeFun Fz fun _ => Nat → Option Obj := ⟨Fz.f⟩
def Le (D D' : Fz) : Prop := ∀ b o, D b = some o → D' b = some o
theorem Le.refl (D : Fz) : Le D D := fun _ _ h => h
theorem Le.trans {A B C : Fz} (h : Le A B) (k : Le B C) : Le A C := fun b o x => k b o (h b o x)
def ids (C : List Chunk) : List Nat := C.flatten.map (·.1)
structure St (D : Fz) (C : List Chunk) (h : Heap) : Prop where
 nd : (ids C).Nodup
 own : ∀ p ∈ C.flatten, h[p.1]? = some p.2
 fz : ∀ b o, D b = some o → h[b]? = some o ∧ b ∉ ids C
variable {D D' : Fz} {C : List Chunk} {h h' : Heap}
theorem St.perm {C' : List Chunk} (S : St D C h) (p : C.flatten.Perm C'.flatten) : St D C' h where
 nd := (p.map _).nodup_iff.1 S.nd
 own q hq := S.own q (p.mem_iff.2 hq)
 fz b o hb := ⟨(S.fz b o hb).1, fun hm => (S.fz b o hb).2 ((p.map _).mem_iff.2 hm)⟩
theorem perm_pick {α : Type} : ∀ {C : List (List α)} {i : Nat} {c : List α}, C[i]? = some c → C.flatten.Perm (c :: C.eraseIdx i).flatten
 | [], i, c, h => by simp at h
 | x :: C, 0, c, h => by simp at h; subst h; exact .refl _
 | x :: C, i + 1, c, h => by
   have := perm_pick (C := C) (i := i) (c := c) (by simpa using h)
   simp only [List.flatten_cons, List.eraseIdx_cons_succ] at this ⊢
   refine (this.append_left x).trans ?_
   rw [← List.append_assoc, ← List.append_assoc]
   exact List.perm_append_comm.append_right _
theorem St.pick (S : St D C h) (i : Nat) {c : Chunk} (hi : C[i]? = some c) : St D (c :: C.eraseIdx i) h := S.perm (perm_pick hi)
theorem St.drop {c : Chunk} (S : St D (c :: C) h) : St D C h where
 nd := by have := S.nd; simp only [ids, List.flatten_cons, List.map_append, List.nodup_append] at this; exact this.2.1
 own p hp := S.own p (by simp only [List.flatten_cons, List.mem_append]; exact .inr hp)
 fz b o hb := ⟨(S.fz b o hb).1, fun hm => (S.fz b o hb).2 (by simp only [ids, List.flatten_cons, List.map_append, List.mem_append]; exact .inr hm)⟩
theorem St.get {c : Chunk} {b : Nat} {o : Obj} (S : St D (c :: C) h) (hm : (b, o) ∈ c) : h[b]? = some o := S.own (b, o) (by simp [hm])
theorem St.upd {c c' : Chunk} (S : St D (c :: C) h) (k : KB (c.map (·.1)) h h') (hc : ∀ p ∈ c', h'[p.1]? = some p.2) (hn : (c'.map (·.1)).Nodup)
 (hi : ∀ p ∈ c', p.1 ∈ c.map (·.1) ∨ h.size ≤ p.1) : St D (c' :: C) h' := by
 have hnd := S.nd
 simp only [ids, List.flatten_cons, List.map_append, List.nodup_append] at hnd
 obtain ⟨h1, h2, h3⟩ := hnd
 have hlt : ∀ p ∈ C.flatten, p.1 < h.size := fun p hp => lt_of_get (S.own p (by simp only [List.flatten_cons, List.mem_append]; exact .inr hp))
 have hout : ∀ p ∈ C.flatten, p.1 ∉ c.map (·.1) := fun p hp hm => h3 _ hm _ (List.mem_map.2 ⟨p, hp, rfl⟩) rfl
 refine ⟨?_, ?_, ?_⟩
 · simp only [ids, List.flatten_cons, List.map_append, List.nodup_append]
   refine ⟨hn, h2, fun x hx y hy e => ?_⟩
   subst e
   obtain ⟨p, hp, rfl⟩ := List.mem_map.1 hx
   obtain ⟨q, hq, he⟩ := List.mem_map.1 hy
   have := hlt q hq
   rcases hi p hp with hm | hm
   · exact hout q hq (he ▸ hm)
   · omega
 · intro p hp
   simp only [List.flatten_cons, List.mem_append] at hp
   rcases hp with hp | hp
   · exact hc p hp
   · exact k.get (S.own p (by simp only [List.flatten_cons, List.mem_append]; exact .inr hp)) (hout p hp)
 · intro b o hb
   obtain ⟨g1, g2⟩ := S.fz b o hb
   simp only [ids, List.flatten_cons, List.map_append, List.mem_append, not_or] at g2 ⊢
   refine ⟨k.get g1 g2.1, fun hm => ?_, g2.2⟩
   obtain ⟨p, hp, rfl⟩ := List.mem_map.1 hm
   rcases hi p hp with hm | hm
   · exact g2.1 hm
   · have := lt_of_get g1; omega
theorem St.nil (S : St D C h) : St D ([] :: C) h := ⟨S.nd, S.own, S.fz⟩
theorem St.keep (S : St D C h) (k : Keep h h') : St D C h' := (S.nil.upd (c' := []) (k.mono fun x hx => by simp at hx) (by simp) (by simp) (by simp)).drop
theorem St.new {o : Obj} {K : Nat → Heap → Prop} (S : St D C h) (hK : ∀ (b : Nat) (h1 : Heap), St D ([(b, o)] :: C) h1 → K b h1) : newB h o K :=
 newB_intro fun h1 hb k s => hK _ h1 (S.nil.upd (k.mono fun x hx => by simp at hx) (by simpa using hb) (by simp) (by simp))
theorem St.freeze {c : Chunk} (S : St D (c :: C) h) : ∃ D', Le D D' ∧ (∀ p ∈ c, D' p.1 = some p.2) ∧ St D' C h := by
 have hnd := S.nd
 simp only [ids, List.flatten_cons, List.map_append, List.nodup_append] at hnd
 obtain ⟨h1, h2, h3⟩ := hnd
 have key : ∀ p ∈ c, ∀ q ∈ c, p.1 = q.1 → p = q := fun p hp q hq e => by
  have hp' := S.own p (by simp [hp])
  have hq' := S.own q (by simp [hq])
  rw [e, hq'] at hp'
  exact Prod.ext e (Option.some.inj hp').symm
 have hle : ∀ b o, D b = some o → (match c.find? (fun p => p.1 == b) with | some p => some p.2 | none => D b) = some o := by
  intro b o hb
  have : c.find? (fun p => p.1 == b) = none := by
   rw [List.find?_eq_none]
   intro p hp he
   simp only [beq_iff_eq] at he
   exact (S.fz b o hb).2 (by simp only [ids, List.flatten_cons, List.map_append, List.mem_append]; exact .inl (List.mem_map.2 ⟨p, hp, he⟩))
  simp only [this]; exact hb
 refine ⟨⟨fun b => match c.find? (fun p => p.1 == b) with | some p => some p.2 | none => D b, D.gl.mono hle⟩, hle, fun p hp => ?_, S.drop.nd, S.drop.own, fun b o hb => ?_⟩
 · cases hf : c.find? (fun q => q.1 == p.1) with
   | none => rw [List.find?_eq_none] at hf; exact absurd (by simp) (hf p hp)
   | some q =>
     have h1 := List.mem_of_find?_eq_some hf
     have h2 := List.find?_some hf
     simp only [beq_iff_eq] at h2
     have := key q h1 p hp h2
     subst this
     simp only [hf]
 · change (match c.find? (fun p => p.1 == b) with | some p => some p.2 | none => D b) = some o at hb
   cases hf : c.find? (fun q => q.1 == b) with
   | none => rw [hf] at hb; exact ⟨(S.drop.fz b o hb).1, (S.drop.fz b o hb).2⟩
   | some q =>
     rw [hf] at hb
     have h1 := List.mem_of_find?_eq_some hf
     have h2' := List.find?_some hf
     simp only [beq_iff_eq] at h2'
     cases hb
     refine ⟨h2' ▸ S.own q (by simp [h1]), fun hm => ?_⟩
     exact h3 b (List.mem_map.2 ⟨q, h1, h2'⟩) b hm rfl
def arr (is : List Nat) (C : List Chunk) : List Chunk := is.map (fun i => C.getD i []) ++ C.drop is.length
section
variable {b o : Nat} {c : Array Value} {T : TypeId} {f : Nat × Nat} {c0 c1 c2 c3 c4 c5 : Chunk}
end
section
variable {b : Nat} {T : TypeId} {l : List Value} {c0 c1 c2 c3 c4 c5 : Chunk}
theorem St.st0 {vs : List Value} {o i : Nat} {K : Heap → Prop} (S : St D ([(b, .cells ⟨l⟩ T (0, 0))] :: C) h) (hl : Nat.ble (o + i + vs.length) l.length = true) (hv : vs.all single = true)
 (hK : ∀ h', St D ([(b, .cells ⟨splice l (o + i) vs⟩ T (0, 0))] :: C) h' → K h') : storeS b o vs i h K :=
 storeS_blk (l := l) (e := T) (S.get (List.mem_singleton_self _)) (Nat.le_of_ble_eq_true hl) (List.all_eq_true.1 hv) fun h' hb k s => hK h' (S.upd (by simpa using k) (by simpa using hb) (by simp) (by simp))
end
inductive U where
 | i (k : IntKind) (n : Int)
 | b (c : Bool)
 | s (x : ByteArray)
 | l (sz : Nat) (rows : List (List U))
 | p (o : Option (List U))
abbrev U.n (x : Int) : U := .i .i64 x
inductive Rd (D : Fz) : Value → U → Prop
 | int (k : IntKind) (n : Int) : Rd D (.int k n) (.i k n)
 | bool (c : Bool) : Rd D (.bool c) (.b c)
 | str (x : ByteArray) : Rd D (.string x) (.s x)
 | nil (a : Option Addr) (c sz : Nat) : Rd D (.slice a 0 c) (.l sz [])
 | pn : Rd D (.pointer none) (.p none)
 | pp (b o : Nat) (arr : Array Value) (T : TypeId) (f : Nat × Nat) (us : List U) (v : Nat → Value) : D b = some (.cells arr T f) → (∀ j u, us[j]? = some u → arr[o + j]? = some (v j)) → (∀ j u, us[j]? = some u → Rd D (v j) u) →
  Rd D (.pointer (some ⟨b, o, none⟩)) (.p (some us))
 | row (b o c : Nat) (arr : Array Value) (T : TypeId) (f : Nat × Nat) (rows : List (List U)) (sz : Nat) (v : Nat → Nat → Value) : D b = some (.cells arr T f) → rows.length ≤ c → (∀ r ∈ rows, r.length = sz) →
  (∀ i j r u, rows[i]? = some r → r[j]? = some u → arr[o + i * sz + j]? = some (v i j)) → (∀ i j r u, rows[i]? = some r → r[j]? = some u → Rd D (v i j) u) →
  Rd D (.slice (some ⟨b, o, none⟩) rows.length c) (.l sz rows)
theorem Rd.mono {v : Value} {u : U} (hr : Rd D v u) (l : Le D D') : Rd D' v u := by
 induction hr with
 | int k n => exact .int k n
 | bool c => exact .bool c
 | str x => exact .str x
 | nil a c sz => exact .nil a c sz
 | pn => exact .pn
 | pp b o arr T f us v h1 h2 h3 ih => exact .pp b o arr T f us v (l _ _ h1) h2 ih
 | row b o c arr T f rows sz v h1 h2 h3 h4 h5 ih => exact .row b o c arr T f rows sz v (l _ _ h1) h2 h3 h4 ih
theorem Rd.int_iff {v : Value} {k : IntKind} {n : Int} : Rd D v (.i k n) ↔ v = .int k n := ⟨fun h => by cases h; rfl, fun h => h ▸ .int k n⟩
theorem Rd.bool_iff {v : Value} {c : Bool} : Rd D v (.b c) ↔ v = .bool c := ⟨fun h => by cases h; rfl, fun h => h ▸ .bool c⟩
theorem Rd.str_iff {v : Value} {x : ByteArray} : Rd D v (.s x) ↔ v = .string x := ⟨fun h => by cases h; rfl, fun h => h ▸ .str x⟩
theorem Rd.shape {v : Value} {sz : Nat} {rows : List (List U)} (h : Rd D v (.l sz rows)) : ∃ a c, v = .slice a rows.length c ∧ rows.length ≤ c ∧ ∀ r ∈ rows, r.length = sz := by
 cases h with
 | nil a c => exact ⟨a, c, rfl, by simp, by simp⟩
 | row b o c arr T f rows sz v h1 h2 h3 h4 h5 => exact ⟨_, _, rfl, h2, h3⟩
theorem Rd.len {a : Option Addr} {n c sz : Nat} {rows : List (List U)} (h : Rd D (.slice a n c) (.l sz rows)) : n = rows.length ∧ n ≤ c := by
 obtain ⟨a', c', e, hl, -⟩ := h.shape; cases e; exact ⟨rfl, hl⟩
inductive RdL (D : Fz) : List Value → List U → Prop
 | nil : RdL D [] []
 | cons {v : Value} {u : U} {vs : List Value} {us : List U} : Rd D v u → RdL D vs us → RdL D (v :: vs) (u :: us)
theorem RdL.mono {vs : List Value} {us : List U} (hr : RdL D vs us) (l : Le D D') : RdL D' vs us := by
 induction hr with
 | nil => exact .nil
 | cons a _ ih => exact .cons (a.mono l) ih
theorem RdL.len {vs : List Value} {us : List U} (hr : RdL D vs us) : vs.length = us.length := by
 induction hr with
 | nil => rfl
 | cons a _ ih => simp [ih]
theorem RdL.of_get {us : List U} (f : Nat → Value) (h : ∀ j u, us[j]? = some u → Rd D (f j) u) : RdL D ((List.range us.length).map f) us := by
 induction us generalizing f with
 | nil => exact .nil
 | cons u us ih =>
   rw [List.length_cons, List.range_succ_eq_map, List.map_cons, List.map_map]
   exact .cons (h 0 u rfl) (ih (f ∘ Nat.succ) fun j w hw => h (j + 1) w (by simpa using hw))
theorem RdL.get {vs : List Value} {us : List U} (hr : RdL D vs us) : ∀ {j : Nat} {u : U}, us[j]? = some u → ∃ v, vs[j]? = some v ∧ Rd D v u := by
 induction hr with
 | nil => intro j u h; simp at h
 | cons a _ ih =>
   intro j u h
   cases j with
   | zero => simp at h; subst h; exact ⟨_, rfl, a⟩
   | succ j => simpa using ih (by simpa using h)
theorem Rd.at {a : Option Addr} {n c sz i : Nat} {rows : List (List U)} {r : List U} (hx : Rd D (.slice a n c) (.l sz rows)) (hi : rows[i]? = some r) :
 ∃ b o, a = some ⟨b, o, none⟩ ∧ Rd D (.pointer (some ⟨b, o + i * sz, none⟩)) (.p (some r)) ∧ r.length = sz := by
 cases hx with
 | nil => simp at hi
 | row b o c arr T f rows sz v h1 h2 h3 h4 h5 =>
   exact ⟨b, o, rfl, .pp b _ arr T f r (v i) h1 (fun j u hu => h4 i j r u hi hu) fun j u hu => h5 i j r u hi hu, h3 r (List.mem_of_getElem? hi)⟩
inductive Own (D : Fz) (T : TypeId) (sz : Nat) : Option Addr → Nat → List (List U) → Chunk → Prop
 | nil (a : Option Addr) : Own D T sz a 0 [] []
 | row (b c : Nat) (arr : Array Value) (rows : List (List U)) (v : Nat → Nat → Value) : arr.size = c * sz → rows.length ≤ c ∧ c ≤ 9223372036854775807 → (∀ r ∈ rows, r.length = sz) →
  (∀ i j r u, rows[i]? = some r → r[j]? = some u → arr[i * sz + j]? = some (v i j)) → (∀ i j r u, rows[i]? = some r → r[j]? = some u → Rd D (v i j) u) →
  Own D T sz (some ⟨b, 0, none⟩) c rows [(b, .cells arr T (0, 0))]
theorem Own.mono {T : TypeId} {sz c : Nat} {a : Option Addr} {rows : List (List U)} {ch : Chunk} (o : Own D T sz a c rows ch) (l : Le D D') : Own D' T sz a c rows ch := by
 cases o with
 | nil => exact .nil _
 | row b c arr rows v h1 h2 h3 h4 h5 => exact .row b c arr rows v h1 h2 h3 h4 fun i j r u a b => (h5 i j r u a b).mono l
theorem Own.len {T : TypeId} {sz c : Nat} {a : Option Addr} {rows : List (List U)} {ch : Chunk} (o : Own D T sz a c rows ch) : rows.length ≤ c := by
 cases o with
 | nil => simp
 | row b c arr rows v h1 h2 h3 h4 h5 => exact h2.1
theorem Own.freeze {T : TypeId} {sz c : Nat} {a : Option Addr} {rows : List (List U)} {ch : Chunk} (o : Own D T sz a c rows ch) (S : St D (ch :: C) h) : ∃ D', Le D D' ∧ St D' C h ∧ Rd D' (.slice a rows.length c) (.l sz rows) := by
 cases o with
 | nil => exact ⟨D, .refl D, S.drop, .nil _ _ _⟩
 | row b c arr rows v h1 h2 h3 h4 h5 =>
   obtain ⟨D', l, g, S'⟩ := S.freeze
   exact ⟨D', l, S', .row b 0 c arr T (0, 0) rows sz v (g (b, _) (by simp)) h2.1 h3 (fun i j r u a b => by rw [Nat.zero_add]; exact h4 i j r u a b) fun i j r u a b => (h5 i j r u a b).mono l⟩
theorem RdL.single {vs : List Value} {us : List U} (hr : RdL D vs us) : ∀ v ∈ vs, single v = true := by
 induction hr with
 | nil => intro v h; simp at h
 | cons a _ ih =>
   intro v hv
   rcases List.mem_cons.1 hv with rfl | hv
   · cases a <;> rfl
   · exact ih v hv
end Go.Proofs.YtaogfopaalancaaDoor
/- The logic, part b: append and what one makes; slices as parts of slices. -/
set_option linter.unusedVariables false
namespace Go.Proofs.YtaogfopaalancaaDoor
open Go
variable {D D' : Fz} {C : List Chunk} {h h' : Heap} {P : Program}
theorem fl_get {α : Type} {enc : α → List Value} {sz : Nat} (he : ∀ x, (enc x).length = sz) : ∀ (xs : List α) (j : Nat) (v : Value), (xs.flatMap enc)[j]? = some v → ∃ i t x, xs[i]? = some x ∧ (enc x)[t]? = some v ∧ j = i * sz + t
 | [], j, v, h => by simp at h
 | x :: xs, j, v, h => by
   rw [List.flatMap_cons] at h
   by_cases hj : j < sz
   · rw [List.getElem?_append_left (by rw [he]; exact hj)] at h
     exact ⟨0, j, x, rfl, h, by omega⟩
   · rw [List.getElem?_append_right (by rw [he]; omega), he] at h
     obtain ⟨i, t, y, h1, h2, h3⟩ := fl_get he xs (j - sz) v h
     exact ⟨i + 1, t, y, by simpa using h1, h2, by rw [Nat.succ_mul]; omega⟩
theorem fl_len {α : Type} {enc : α → List Value} {sz : Nat} (he : ∀ x, (enc x).length = sz) (xs : List α) : (xs.flatMap enc).length = xs.length * sz := by
 induction xs with
 | nil => simp
 | cons x xs ih => rw [List.flatMap_cons, List.length_append, ih, he, List.length_cons, Nat.succ_mul]; omega
theorem fl_put {α : Type} {enc : α → List Value} {sz : Nat} (he : ∀ x, (enc x).length = sz) : ∀ (xs : List α) (i t : Nat) (x : α) (v : Value), xs[i]? = some x → (enc x)[t]? = some v → (xs.flatMap enc)[i * sz + t]? = some v
 | [], i, t, x, v, h, _ => by simp at h
 | y :: xs, i, t, x, v, h, hv => by
   rw [List.flatMap_cons]
   cases i with
   | zero =>
     simp at h; subst h
     have hj := (List.getElem?_eq_some_iff.1 hv).1
     rw [Nat.zero_mul, Nat.zero_add, List.getElem?_append_left hj]
     exact hv
   | succ i =>
     rw [List.getElem?_append_right (by rw [he]; rw [Nat.succ_mul]; omega)]
     rw [he, show (i + 1) * sz + t - sz = i * sz + t by rw [Nat.succ_mul]; omega]
     exact fl_put he xs i t x v (by simpa using h) hv
def cellsOf (n sz : Nat) (v : Nat → Nat → Value) : List Value := (List.range n).flatMap fun i => (List.range sz).map (v i)
theorem cellsOf_len (n sz : Nat) (v : Nat → Nat → Value) : (cellsOf n sz v).length = n * sz := by
 rw [cellsOf, fl_len (sz := sz) (by simp)]; simp
theorem cellsOf_get {n sz : Nat} {v : Nat → Nat → Value} {j : Nat} {x : Value} (h : (cellsOf n sz v)[j]? = some x) : ∃ i t, i < n ∧ t < sz ∧ j = i * sz + t ∧ x = v i t := by
 obtain ⟨i, t, y, h1, h2, h3⟩ := fl_get (sz := sz) (by simp) _ _ _ h
 obtain ⟨h4, h5⟩ := List.getElem?_eq_some_iff.1 h1
 obtain ⟨h6, h7⟩ := List.getElem?_eq_some_iff.1 h2
 simp at h4 h5 h6 h7
 subst h5
 exact ⟨i, t, h4, h6, h3, h7.symm⟩
theorem cellsOf_put {n sz : Nat} (v : Nat → Nat → Value) {i t : Nat} (hi : i < n) (ht : t < sz) : (cellsOf n sz v)[i * sz + t]? = some (v i t) :=
 fl_put (sz := sz) (by simp) _ i t i _ (by simp [hi]) (by simp [ht])
def Src (D : Fz) (h : Heap) (sz : Nat) (a : Option Addr) (rows : List (List U)) : Prop :=
 (∀ r ∈ rows, r.length = sz) ∧ (rows = [] ∨ ∃ (b o : Nat) (w : Nat → Nat → Value), a = some ⟨b, o, none⟩ ∧ ∀ i j r u, rows[i]? = some r → r[j]? = some u → hcell h ⟨b, o + i * sz + j, none⟩ = some (w i j) ∧ Rd D (w i j) u)
theorem Rd.src {a : Option Addr} {n c sz : Nat} {rows : List (List U)} (x : Rd D (.slice a n c) (.l sz rows)) (S : St D C h) : Src D h sz a rows := by
 refine ⟨(x.shape).elim fun _ h => h.elim fun _ h => h.2.2, ?_⟩
 cases x with
 | nil => exact .inl rfl
 | row b o c arr T f rows sz v h1 h2 h3 h4 h5 => exact .inr ⟨b, o, v, rfl, fun i j r u hi hj => ⟨by rw [hcell_of (S.fz _ _ h1).1]; exact h4 i j r u hi hj, h5 i j r u hi hj⟩⟩
theorem Rd.part {a : Option Addr} {n c sz : Nat} {rows : List (List U)} (x : Rd D (.slice a n c) (.l sz rows)) {l r : Nat} (hl : l ≤ r) (hr : r ≤ n) : Rd D (.slice (slA a c l sz) (subN r l) (subN c l)) (.l sz ((rows.take r).drop l)) := by
 have hsub : ∀ p q, subN p q = p - q := fun p q => by
  unfold subN
  cases q with
  | zero => rfl
  | succ q => rfl
 rw [hsub, hsub]
 cases x with
 | nil =>
   have : r = 0 := by omega
   subst this
   simp only [List.take_nil, List.drop_nil, Nat.zero_sub]
   exact .nil _ _ _
 | row b o c arr T f rows sz v h1 h2 h3 h4 h5 =>
   have hlen : ((rows.take r).drop l).length = r - l := by simp; omega
   by_cases hz : (rows.take r).drop l = []
   · rw [hz]; have : r - l = 0 := by rw [← hlen, hz]; rfl
     rw [this]; exact .nil _ _ _
   have hlt : l < r := by
    rcases Nat.lt_or_ge l r with h | h
    · exact h
    · exfalso; apply hz; apply List.eq_nil_of_length_eq_zero; omega
   have ha : slA (some ⟨b, o, none⟩) c l sz = some ⟨b, o + l * sz, none⟩ := by
    unfold slA
    cases l with
    | zero => simp
    | succ l =>
      show (if c = l + 1 then _ else _) = _
      rw [if_neg (by omega)]; rfl
   rw [ha, ← hlen]
   refine .row b (o + l * sz) (c - l) arr T f _ sz (fun i j => v (i + l) j) h1 (by omega) (fun q hq => h3 q (List.mem_of_mem_take (List.mem_of_mem_drop hq))) (fun i j q u hi hj => ?_) (fun i j q u hi hj => ?_)
   · rw [List.getElem?_drop] at hi
     rw [List.getElem?_take] at hi
     have hi' : rows[l + i]? = some q := by split at hi; exact hi; cases hi
     rw [show o + l * sz + i * sz + j = o + (i + l) * sz + j by rw [Nat.add_mul]; omega]
     rw [Nat.add_comm l i] at hi'
     exact h4 _ j q u hi' hj
   · rw [List.getElem?_drop] at hi
     rw [List.getElem?_take] at hi
     have hi' : rows[l + i]? = some q := by split at hi; exact hi; cases hi
     rw [Nat.add_comm l i] at hi'
     exact h5 _ j q u hi' hj
theorem Own.toS {T : TypeId} {sz c : Nat} {a : Option Addr} {rows : List (List U)} {ch : Chunk} (x : Own D T sz a c rows ch) (S : St D (ch :: C) h) : ∃ a0 v, (a = a0 ∨ (rows = [] ∧ c = 0 ∧ a0 = none)) ∧ OwnS 0 T sz h a0 rows.length c (cellsOf rows.length sz v) ∧ ch.map (·.1) = ownB a0 ∧
 (∀ r ∈ rows, r.length = sz) ∧ ∀ i j r u, rows[i]? = some r → r[j]? = some u → Rd D (v i j) u := by
 cases x with
 | nil => exact ⟨none, fun _ _ => undef, .inr ⟨rfl, rfl, rfl⟩, .nil _ _ _ _, rfl, by simp, by simp⟩
 | row b c arr rows v h1 h2 h3 h4 h5 =>
   refine ⟨_, v, .inl rfl, .inr ⟨b, arr, rfl, Nat.zero_le _, S.get (List.mem_singleton_self _), h1, h2, cellsOf_len _ _ _, fun j x hx => ?_⟩, rfl, h3, h5⟩
   obtain ⟨i, t, hi, ht, rfl, rfl⟩ := cellsOf_get hx
   have hr : rows[i].length = sz := h3 _ (by simp)
   exact h4 i t rows[i] rows[i][t] (by simp [hi]) (by simp [hr, ht])
theorem Own.ofS {T : TypeId} {sz n c : Nat} {a : Option Addr} {rows : List (List U)} {v : Nat → Nat → Value} (x : OwnS 0 T sz h a n c (cellsOf n sz v)) (hn : n = rows.length) (hs : ∀ r ∈ rows, r.length = sz) (hr : ∀ i j r u, rows[i]? = some r → r[j]? = some u → Rd D (v i j) u) :
 ∃ ch, Own D T sz a c rows ch ∧ ch.map (·.1) = ownB a ∧ ∀ p ∈ ch, h[p.1]? = some p.2 := by
 subst hn
 rcases x with ⟨rfl, hn, rfl, -⟩ | ⟨b, l, rfl, -, h2, h3, h4, h5, h6⟩
 · have : rows = [] := List.eq_nil_of_length_eq_zero hn
   subst this
   exact ⟨[], .nil _, rfl, by simp⟩
 · refine ⟨_, .row b c l rows v h3 h4 hs (fun i j r u hi hj => ?_) hr, rfl, by simpa using h2⟩
   have e1 := (List.getElem?_eq_some_iff.1 hi).1
   have e2 := (List.getElem?_eq_some_iff.1 hj).1
   rw [hs r (List.mem_of_getElem? hi)] at e2
   exact h6 _ _ (cellsOf_put v e1 e2)
theorem cellsOf_app {n m sz : Nat} {v w : Nat → Nat → Value} : cellsOf n sz v ++ cellsOf m sz w = cellsOf (n + m) sz fun i j => if i < n then v i j else w (i - n) j := by
 unfold cellsOf
 rw [List.range_add, List.flatMap_append]
 congr 1
 · rw [List.flatMap_def, List.flatMap_def]
   congr 1
   refine List.map_congr_left fun i hi => ?_
   simp at hi
   simp [hi]
 · rw [List.flatMap_def, List.flatMap_def, List.map_map]
   congr 1
   refine List.map_congr_left fun i hi => ?_
   simp
   intro a _ hlt; omega
theorem app_own0 {T E : TypeId} {i : TypeInfo} {z : Value} {a : Option Addr} {m cx b2 o2 : Nat} {new : List Value} {K : Value → Heap → Prop}
 (hu : P.underlying T = some (.slice E)) (hi : P.info? E = some i) (hz : i.zero = some z) (hzs : z.cells.size = i.size) (hb : i.bytes ≠ 0) (hm : 0 < m)
 (hnew : ∀ j v, new[j]? = some v → hcell h ⟨b2, o2 + j, none⟩ = some v) (hlen : new.length = m * i.size) (hbd : (2 * (0 + m) + 512) * i.bytes ≤ 281474976710656)
 (hK : ∀ (a' : Option Addr) (c' : Nat) (h' : Heap), OwnS 0 E i.size h' a' (0 + m) c' ([] ++ new) → KB [] h h' → (∀ b o, a' = some ⟨b, o, none⟩ → h.size ≤ b) → K (.slice a' (0 + m) c') h') :
 appK P #[T, T] T (.slice a 0 0) (.slice (some ⟨b2, o2, none⟩) m cx) h K := by
 unfold appK
 have hfc : ∀ {K' : Array Value → Heap → Prop}, K' new.toArray h → SWp P (Builtin.firstCells i.size m (.slice (some ⟨b2, o2, none⟩) m cx)) h K' := by
  intro K' hK'
  show SWp P (loadCells ⟨b2, o2, none⟩ (m * i.size)) h K'
  rw [← hlen]
  exact SWp_loadCells (fun j v hv => by simpa using hnew j v hv) (by simpa using hK')
 show SWp P (underlying T >>= _) h K
 refine SWp_bind (SWp_underlying hu ?_)
 refine SWp_bind (SWp_sizeOf hi ?_)
 refine SWp_bind (SWp_bind (SWp_underlying hu ?_))
 refine SWp_bind ?_
 show SWp P (Builtin.lenOf (.slice (some ⟨b2, o2, none⟩) m cx) >>= _) h K
 refine SWp_bind ?_
 show SWp P (if 0 + m ≤ 0 then _ else _) h K
 rw [if_neg (by omega)]
 refine SWp_bind (SWp_typeInfo hi ?_)
 rw [if_neg (by rintro ⟨-, h1 | h1⟩; exact absurd h1 (by simp); exact hb h1)]
 refine SWp_bind ?_
 refine SWp_bind (SWp_typeInfo hi ?_)
 have hcap2 : ¬ Builtin.nextslicecap (0 + m) 0 * i.bytes > 2 ^ 48 := by
  have h1 := nextslicecap_le (n := 0 + m) (c := 0) (by omega)
  have h2 := Nat.mul_le_mul_right i.bytes h1
  omega
 rw [if_neg hcap2]
 refine SWp_bind ?_
 refine ⟨fun hf => (by cases hf), fun _ t => ?_⟩
 have hge : 0 + m ≤ (Question.appendCap (0 + m) 0 E).cut t ∧ (Question.appendCap (0 + m) 0 E).cut t ≤ 9223372036854775807 := by
  have hbig : 0 + m < 2 ^ 63 := by
   have : 2 * (0 + m) + 512 ≤ (2 * (0 + m) + 512) * i.bytes := Nat.le_mul_of_pos_right _ (Nat.pos_of_ne_zero hb)
   omega
  have := Nat.mod_lt t (show 2 ^ 63 - (0 + m) > 0 by omega)
  simp only [Question.cut]
  omega
 generalize (Question.appendCap (0 + m) 0 E).cut t = c' at hge ⊢
 refine SWp_bind (SWp_typeInfo hi ?_)
 refine SWp_bind (SWp_askRoom ?_)
 have hold : ∀ {K' : Array Value → Heap → Prop}, K' #[] h → SWp P (Builtin.firstCells i.size 0 (.slice a 0 0)) h K' := by
  intro K' hK'
  cases a with
  | none => exact hK'
  | some ad =>
    show SWp P (loadCells ad (0 * i.size)) h K'
    rw [Nat.zero_mul]
    exact hK'
 refine SWp_bind (hold ?_)
 refine SWp_bind ?_
 show SWp P (Builtin.firstCells i.size m (.slice (some ⟨b2, o2, none⟩) m cx)) h _
 refine hfc ?_
 refine SWp_bind (SWp_zero hi hz ?_)
 refine hK (some ⟨h.size, 0, none⟩) c' (h.push (.cells (#[] ++ new.toArray ++ Builtin.zeroCells z.cells (c' - (0 + m))) E)) (.inr ⟨h.size, _, rfl, Nat.zero_le _, push_get _ _, ?_, hge, ?_, ?_⟩) (.push _ _ _) fun b o hbo => (by cases hbo; exact Nat.le_refl _)
 · simp only [Array.size_append, List.size_toArray, Builtin.zeroCells, Array.size_map, Array.size_range, hlen, hzs, List.length_nil]
   rw [Nat.zero_add, Nat.zero_add, ← Nat.add_mul, show m + (c' - m) = c' by omega]
 · simp [hlen]
 · intro j v hv
   have hj := (List.getElem?_eq_some_iff.1 hv).1
   rw [Array.getElem?_append_left (by simpa using hj)]
   simpa using hv
theorem Own.app {T E : TypeId} {i : TypeInfo} {z : Value} {a a2 : Option Addr} {c m cx : Nat} {rows rows2 : List (List U)} {ch : Chunk} {K : Value → Heap → Prop} (own : Own D E i.size a c rows ch) (S : St D (ch :: C) h)
 (hu : P.underlying T = some (.slice E)) (hi : P.info? E = some i) (hz : i.zero = some z) (hzs : z.cells.size = i.size) (hb : i.bytes ≠ 0) (src : Src D h i.size a2 rows2) (hm : m = rows2.length) (hbd : (2 * (rows.length + rows2.length) + 512) * i.bytes ≤ 281474976710656)
 (hne : rows2 ≠ [])
 (hK : ∀ a' c' ch' h', Own D E i.size a' c' (rows ++ rows2) ch' → St D (ch' :: C) h' → K (.slice a' (rows ++ rows2).length c') h') :
 appK P #[T, T] T (.slice a rows.length c) (.slice a2 m cx) h K := by
 subst hm
 obtain ⟨a0, v, ha0, os, hids, hs, hr⟩ := own.toS S
 obtain ⟨hs2, hsrc⟩ := src
 obtain ⟨b2, o2, w, rfl, hw⟩ := hsrc.resolve_left hne
 have hsingle : ∀ x ∈ cellsOf rows2.length i.size w, single x = true := fun x hx => by
  obtain ⟨j, hj⟩ := List.mem_iff_getElem?.1 hx
  obtain ⟨k, t, hk, ht, -, rfl⟩ := cellsOf_get hj
  have hr2 : rows2[k].length = i.size := hs2 _ (by simp)
  have := (hw k t rows2[k] rows2[k][t] (by simp [hk]) (by simp [hr2, ht])).2
  exact RdL.single (D := D) (vs := [w k t]) (us := [rows2[k][t]]) (.cons this .nil) _ (by simp)
 have hnew : ∀ j x, (cellsOf rows2.length i.size w)[j]? = some x → hcell h ⟨b2, o2 + j, none⟩ = some x := fun j x hx => by
  obtain ⟨k, t, hk, ht, rfl, rfl⟩ := cellsOf_get hx
  have hr2 : rows2[k].length = i.size := hs2 _ (by simp)
  have := (hw k t rows2[k] rows2[k][t] (by simp [hk]) (by simp [hr2, ht])).1
  rw [← this, Nat.add_assoc]
 have fin : ∀ (a' : Option Addr) (c' : Nat) (h' : Heap), OwnS 0 E i.size h' a' (rows.length + rows2.length) c' (cellsOf rows.length i.size v ++ cellsOf rows2.length i.size w) → KB (ownB a0) h h' → (∀ b o, a' = some ⟨b, o, none⟩ → b ∈ ownB a0 ∨ h.size ≤ b) → K (.slice a' (rows.length + rows2.length) c') h' := fun a' c' h' os' k' hmv => by
  rw [cellsOf_app] at os'
  obtain ⟨ch', own', hids', hget⟩ := Own.ofS (rows := rows ++ rows2) os' (by simp) (fun r hr' => (List.mem_append.1 hr').elim (hs r) (hs2 r)) fun k j r u hk hj => by
   by_cases hkl : k < rows.length
   · rw [List.getElem?_append_left hkl] at hk
     simp only [if_pos hkl]; exact hr k j r u hk hj
   · rw [List.getElem?_append_right (by omega)] at hk
     simp only [if_neg hkl]; exact (hw _ j r u hk hj).2
  have hl : (rows ++ rows2).length = rows.length + rows2.length := by simp
  rw [← hl]
  refine hK a' c' ch' h' own' (S.upd (by rw [hids]; exact k') hget ?_ fun p hp => ?_)
  · rw [hids']; cases a' <;> simp [ownB]
  · have hp' : p.1 ∈ ownB a' := by rw [← hids']; exact List.mem_map.2 ⟨p, hp, rfl⟩
    rw [hids]
    cases a' with
    | none => simp [ownB] at hp'
    | some ad =>
      rcases os' with ⟨e, -⟩ | ⟨b, l, e, -⟩
      · cases e
      · cases e
        simp [ownB] at hp'; rw [hp']
        exact hmv b 0 rfl
 rcases ha0 with rfl | ⟨rfl, rfl, rfl⟩
 · exact app_own (P := P) (T := T) (E := E) (B := 0) (new := cellsOf rows2.length i.size w) hu hi hz hzs hb os (Nat.zero_le _) hnew (cellsOf_len _ _ _) hsingle hbd fin
 · exact app_own0 (P := P) (T := T) (E := E) (new := cellsOf rows2.length i.size w) hu hi hz hzs hb (List.length_pos_iff.2 hne) hnew (cellsOf_len _ _ _) hbd fun a' c' h' os' k' hmv => fin a' c' h' os' k' fun b o e => .inr (hmv b o e)
theorem app_nil {T E : TypeId} {i : TypeInfo} {a a2 : Option Addr} {n c cx : Nat} {K : Value → Heap → Prop} (hu : P.underlying T = some (.slice E)) (hi : P.info? E = some i) (hn : n ≤ c) (hK : K (.slice a n c) h) : appK P #[T, T] T (.slice a n c) (.slice a2 0 cx) h K := by
 unfold appK
 show SWp P (underlying T >>= _) h K
 refine SWp_bind (SWp_underlying hu ?_)
 refine SWp_bind (SWp_sizeOf hi ?_)
 refine SWp_bind (SWp_bind (SWp_underlying hu ?_))
 refine SWp_bind ?_
 show SWp P (Builtin.lenOf (.slice a2 0 cx) >>= _) h K
 refine SWp_bind ?_
 show SWp P (if n + 0 ≤ c then _ else _) h K
 rw [if_pos (by omega)]
 have e : ∀ {K' : Array Value → Heap → Prop}, K' #[] h → SWp P (Builtin.firstCells i.size 0 (.slice a2 0 cx)) h K' := by
  intro K' hK'
  cases a2 with
  | none => exact hK'
  | some b =>
    show SWp P (loadCells b (0 * i.size)) h K'
    rw [Nat.zero_mul]; exact hK'
 refine SWp_bind (e ?_)
 cases a with
 | none => exact hK
 | some b => exact SWp_bind hK
def elTyB (P : Program) (T E sz : Nat) : Bool :=
 (match P.underlying T with | some (.slice e) => Nat.beq e E | _ => false) &&
 match P.info? E with
 | some i => Nat.beq i.size sz && !Nat.beq i.bytes 0 && Nat.ble i.bytes 1000 && (match i.zero with | some z => Nat.beq z.cells.size sz | none => false)
 | none => false
structure ElTy (P : Program) (T E sz : Nat) : Prop where
 ty : P.underlying T = some (.slice E)
 inf : ∃ i z, P.info? E = some i ∧ i.size = sz ∧ i.bytes ≠ 0 ∧ i.bytes ≤ 1000 ∧ i.zero = some z ∧ z.cells.size = sz
theorem ElTy.of {T E sz : Nat} (h : elTyB P T E sz = true) : ElTy P T E sz := by
 unfold elTyB at h
 simp only [Bool.and_eq_true] at h
 obtain ⟨h1, h2⟩ := h
 refine ⟨?_, ?_⟩
 · cases hu : P.underlying T with
   | none => rw [hu] at h1; cases h1
   | some d =>
     rw [hu] at h1
     cases d <;> simp at h1
     rw [h1]
 · cases hi : P.info? E with
   | none => rw [hi] at h2; cases h2
   | some i =>
     rw [hi] at h2
     simp only [Bool.and_eq_true, Bool.not_eq_true'] at h2
     obtain ⟨⟨⟨h3, h4⟩, h5⟩, h6⟩ := h2
     cases hz : i.zero with
     | none => rw [hz] at h6; cases h6
     | some z =>
       rw [hz] at h6
       exact ⟨i, z, rfl, Nat.eq_of_beq_eq_true h3, (fun e => by rw [e] at h4; cases h4), Nat.le_of_ble_eq_true h5, hz, Nat.eq_of_beq_eq_true h6⟩
theorem app_w {T E sz : Nat} {a a2 : Option Addr} {c m n cx : Nat} {r r2 : List (List U)} {ch : Chunk} {K : Value → Heap → Prop} (ty : ElTy P T E sz) (own : Own D E sz a c r ch) (S : St D (ch :: C) h) (src : Src D h sz a2 r2) (hn : n = r.length) (hm : m = r2.length) (hb : r.length + r2.length ≤ 1000000)
 (hK : ∀ a' c' ch' h', Own D E sz a' c' (r ++ r2) ch' → St D (ch' :: C) h' → K (.slice a' (r ++ r2).length c') h') : appK P #[T, T] T (.slice a n c) (.slice a2 m cx) h K := by
 obtain ⟨hT, i, z, hi, hsz, hby, hby2, hz, hzs⟩ := ty
 subst hm hn
 by_cases hr2 : r2 = []
 · subst hr2
   refine app_nil (E := E) hT hi own.len ?_
   simpa using hK a c ch h (by simpa using own) S
 subst hsz
 have hbd : (2 * (r.length + r2.length) + 512) * i.bytes ≤ 281474976710656 := by
  have := Nat.mul_le_mul (show 2 * (r.length + r2.length) + 512 ≤ 2000512 by omega) hby2
  omega
 exact Own.app own S hT hi hz hzs hby src rfl hbd hr2 fun a' c' ch' h' own' S' => hK a' c' ch' h' own' S'
end Go.Proofs.YtaogfopaalancaaDoor
/- Maps, part d: what is done with a map's block. -/
set_option linter.unusedVariables false
namespace Go.Proofs.YtaogfopaalancaaDoor
open Go Go.MapKept
def mGet : MV → MK → Option Value
 | [], _ => none
 | p :: m, k => if p.1 = k then some p.2 else mGet m k
def mSet : MV → MK → Value → MV
 | [], k, v => [(k, v)]
 | p :: m, k, v => if p.1 = k then (k, v) :: m else p :: mSet m k v
def mDel : MV → MK → MV
 | [], _ => []
 | p :: m, k => if p.1 = k then m else p :: mDel m k
theorem mIdx_get (m : MV) (k : MK) : ∀ i, (mIdx m k i).map (·.2) = mGet m k := by
 induction m with
 | nil => intro i; rfl
 | cons p m ih => intro i; simp only [mIdx, mGet]; split; rfl; exact ih _
theorem mIdx_none {m : MV} {k : MK} : ∀ {i}, mIdx m k i = none → (∀ p ∈ m, p.1 ≠ k) ∧ ∀ v, mSet m k v = m ++ [(k, v)] := by
 induction m with
 | nil => intro i _; exact ⟨by simp, fun v => rfl⟩
 | cons p m ih =>
   intro i h
   simp only [mIdx] at h
   split at h
   · cases h
   · rename_i hk
     obtain ⟨h1, h2⟩ := ih h
     refine ⟨fun q hq => ?_, fun v => ?_⟩
     · rcases List.mem_cons.1 hq with rfl | hq
       · exact hk
       · exact h1 q hq
     · simp only [mSet, if_neg hk, h2 v, List.cons_append]
theorem mIdx_some {m : MV} {k : MK} : ∀ {i j : Nat} {v : Value}, mIdx m k i = some (j, v) → ∃ n, j = i + n ∧ m[n]? = some (k, v) ∧ (∀ x, mSet m k x = m.set n (k, x)) ∧ mDel m k = m.eraseIdx n := by
 induction m with
 | nil => intro i j v h; simp [mIdx] at h
 | cons p m ih =>
   intro i j v h
   simp only [mIdx] at h
   split at h
   · rename_i hk
     simp only [Option.some.injEq, Prod.mk.injEq] at h
     obtain ⟨rfl, rfl⟩ := h
     obtain ⟨pk, pv⟩ := p
     simp only at hk
     subst hk
     exact ⟨0, rfl, rfl, fun x => by simp [mSet], by simp [mDel]⟩
   · rename_i hk
     obtain ⟨n, h1, h2, h3, h4⟩ := ih h
     exact ⟨n + 1, by omega, by simpa using h2, fun x => by simp only [mSet, if_neg hk, h3 x, List.set_cons_succ], by simp only [mDel, if_neg hk, h4, List.eraseIdx_cons_succ]⟩
theorem mSet_has {kt : KT} {m : MV} {k : MK} {v : Value} (hk : kt.has k = true) (hh : ∀ p ∈ m, kt.has p.1 = true) : ∀ p ∈ mSet m k v, kt.has p.1 = true := by
 induction m with
 | nil => intro p hp; simp [mSet] at hp; subst hp; exact hk
 | cons q m ih =>
   intro p hp
   simp only [mSet] at hp
   split at hp
   · rcases List.mem_cons.1 hp with rfl | hp
     · exact hk
     · exact hh p (by simp [hp])
   · rcases List.mem_cons.1 hp with rfl | hp
     · exact hh _ (by simp)
     · exact ih (fun r hr => hh r (by simp [hr])) p hp
theorem mDel_sub (m : MV) (k : MK) : (mDel m k).Sublist m := by
 induction m with
 | nil => exact .refl _
 | cons q m ih =>
   simp only [mDel]
   split
   · exact List.sublist_cons_self _ _
   · exact ih.cons_cons _
structure MpI (kt : KT) (es : Array MapEntry) (clk : Nat) (m : MV) : Prop where
 ent : mEnt es.toList m
 st : Stamped es clk
 has : ∀ p ∈ m, kt.has p.1 = true
theorem MpI.nil (kt : KT) : MpI kt #[] 0 [] := ⟨rfl, stamped_empty 0, by simp⟩
theorem MpI.keyOf {kt : KT} {es : Array MapEntry} {clk : Nat} {m : MV} (I : MpI kt es clk m) {e : MapEntry} (he : e ∈ es.toList) : ∃ p ∈ m, e.key = mkV p.1 ∧ e.val = p.2 := by
 obtain ⟨i, hi⟩ := List.mem_iff_getElem?.1 he
 obtain ⟨p, hp, h1, h2⟩ := mEnt_get I.ent hi
 exact ⟨p, List.mem_of_getElem? hp, h1, h2⟩
section
variable {P : Program} {w : World} {T K E : TypeId} {kt : KT} {b : Nat} {es : Array MapEntry} {clk : Nat} {m : MV} {k : MK}
theorem run_look (hT : P.underlying T = some (.map K E)) (hk : ktOf P K = some kt) {i : TypeInfo} {z : Value} (hi : P.info? E = some i) (hz : i.zero = some z) (hb : w.heap[b]? = some (.map es clk)) (I : MpI kt es clk m) (hx : kt.has k = true) (ok : Bool) :
 (Instr.lookup T (.map (some b)) (mkV k) ok).run P w = .ok (if ok then .tuple #[(mGet m k).getD z, .bool (mGet m k).isSome] else (mGet m k).getD z) w := by
 have hg := mIdx_get m k 0
 have hzr : (zeroValue E).run P w = .ok z w := by
  simp only [zeroValue, Sem.run_bind, run_typeInfo w hi, Result.andThen_ok, hz, Sem.run_pure]
 simp only [Instr.lookup, Sem.run_bind, run_underlying hT, Result.andThen_ok, MapKept.run_getObj_map hb, Sem.run_pure, run_checkK hk hx, run_findK hk hx I.ent I.has]
 cases hf : mIdx m k 0 with
 | none =>
   rw [hf] at hg
   simp only [Option.map_none] at hg
   rw [← hg]
   simp only [Sem.run_bind, hzr, Result.andThen_ok, Sem.run_pure]
   cases ok <;> rfl
 | some p =>
   rw [hf] at hg
   simp only [Option.map_some] at hg
   rw [← hg]
   simp only [Sem.run_bind, Result.andThen_ok, Sem.run_pure]
   cases ok <;> rfl
theorem run_look0 (hT : P.underlying T = some (.map K E)) (hk : ktOf P K = some kt) {i : TypeInfo} {z : Value} (hi : P.info? E = some i) (hz : i.zero = some z) (hx : kt.has k = true) (ok : Bool) :
 (Instr.lookup T (.map none) (mkV k) ok).run P w = .ok (if ok then .tuple #[z, .bool false] else z) w := by
 have hzr : (zeroValue E).run P w = .ok z w := by
  simp only [zeroValue, Sem.run_bind, run_typeInfo w hi, Result.andThen_ok, hz, Sem.run_pure]
 have hf := run_findK (P := P) (w := w) hk hx (es := []) (m := []) rfl (by simp)
 simp only [Instr.lookup, Sem.run_bind, run_underlying hT, Result.andThen_ok, Sem.run_pure, run_checkK hk hx, hf, mIdx, hzr]
theorem run_upd (hT : P.underlying T = some (.map K E)) (hk : ktOf P K = some kt) (hb : w.heap[b]? = some (.map es clk)) (I : MpI kt es clk m) (hx : kt.has k = true) (v : Value) :
 ∃ es' clk', (Instr.mapUpdate T (.map (some b)) (mkV k) v).run P w = .ok () { w with heap := w.heap.setIfInBounds b (.map es' clk') } ∧ MpI kt es' clk' (mSet m k v) := by
 cases hf : mIdx m k 0 with
 | none =>
   obtain ⟨h1, h2⟩ := mIdx_none hf
   refine ⟨es.push ⟨mkV k, v, clk⟩, clk + 1, ?_, ?_, stamped_push I.st ?_, mSet_has hx I.has⟩
   · simp [Instr.mapUpdate, run_underlying hT, MapKept.run_getObj_map hb, run_checkK hk hx, run_findK hk hx I.ent I.has, hf, MapKept.run_setObj_map _ hb, Result.andThen]
   · unfold mEnt
     rw [h2 v]
     have := I.ent
     unfold mEnt at this
     simp [this]
   · intro e he hke
     obtain ⟨p, hp, h3, -⟩ := I.keyOf he
     exact h1 p hp (mkV_inj (h3.symm.trans hke))
 | some q =>
   obtain ⟨j, u⟩ := q
   obtain ⟨n, h1, h2, h3, -⟩ := mIdx_some hf
   rw [Nat.zero_add] at h1
   subst h1
   have hjl : j < es.toList.length := by rw [mEnt_len I.ent]; exact (List.getElem?_eq_some_iff.1 h2).1
   obtain ⟨p, hp, hpk, -⟩ := mEnt_get I.ent (List.getElem?_eq_getElem hjl)
   rw [h2] at hp
   cases hp
   have hj : es[j]? = some es.toList[j] := by rw [← Array.getElem?_toList, List.getElem?_eq_getElem hjl]
   have hkeyf : ∀ e ∈ es.toList, es[j]? = some e → ({ e with key := mkV k, val := v } : MapEntry).key = e.key := fun e _ he => by
    rw [hj] at he; cases he; exact hpk.symm
   have hmod : (es.modify j fun e => { e with key := mkV k, val := v }).toList = es.toList.modify j fun e => { e with key := mkV k, val := v } := by simp
   refine ⟨es.modify j fun e => { e with key := mkV k, val := v }, clk, ?_, ?_, stamped_modify I.st _ _ (fun _ _ => rfl) hkeyf, mSet_has hx I.has⟩
   · have hgk : ((es[j]?).map (·.key)).getD (mkV k) = mkV k := by rw [hj]; exact hpk
     simp only [Instr.mapUpdate, Sem.run_bind, run_underlying hT, MapKept.run_getObj_map hb, run_checkK hk hx, run_findK hk hx I.ent I.has, hf, hgk, run_stays, MapKept.run_setObj_map _ hb, Result.andThen_ok]
   · unfold mEnt
     rw [hmod, h3 v]
     apply List.ext_getElem?
     intro i
     have h4 := congrArg (fun l => l[i]?) I.ent
     simp only [List.getElem?_map] at h4
     simp only [List.getElem?_map, List.getElem?_modify, List.getElem?_set]
     by_cases hij : j = i
     · subst hij
       simp only [if_true]
       rw [List.getElem?_eq_getElem hjl]
       simp [show j < m.length by rw [← mEnt_len I.ent]; exact hjl]
     · simp only [hij, if_false]
       cases hee : es.toList[i]? with
       | none => rw [hee] at h4; simpa using h4
       | some e => rw [hee] at h4; simpa using h4
theorem run_del {ty : TypeId} (hT : P.underlying T = some (.map K E)) (hk : ktOf P K = some kt) (hb : w.heap[b]? = some (.map es clk)) (I : MpI kt es clk m) (hx : kt.has k = true) :
 ∃ es', (Builtin.delete_ #[T, K] ty #[.map (some b), mkV k]).run P w = .ok (.tuple #[]) { w with heap := w.heap.setIfInBounds b (.map es' clk) } ∧ MpI kt es' clk (mDel m k) := by
 have hh : ∀ p ∈ mDel m k, kt.has p.1 = true := fun p hp => I.has p ((mDel_sub m k).subset hp)
 cases hf : mIdx m k 0 with
 | none =>
   obtain ⟨h1, h2⟩ := mIdx_none hf
   have h3 : mDel m k = m := by
    have : ∀ l : MV, (∀ p ∈ l, p.1 ≠ k) → mDel l k = l := by
     intro l
     induction l with
     | nil => intro _; rfl
     | cons p l ih => intro h; simp only [mDel, if_neg (h p (by simp)), ih fun q hq => h q (by simp [hq])]
    exact this m h1
   refine ⟨es, ?_, by rw [h3]; exact I⟩
   simp [Builtin.delete_, run_underlying hT, MapKept.run_getObj_map hb, run_checkK hk hx, run_findK hk hx I.ent I.has, hf, MapKept.run_setObj_map _ hb, Result.andThen]
 | some q =>
   obtain ⟨j, u⟩ := q
   obtain ⟨n, h1, h2, -, h4⟩ := mIdx_some hf
   rw [Nat.zero_add] at h1
   subst h1
   have hjl : j < es.toList.length := by rw [mEnt_len I.ent]; exact (List.getElem?_eq_some_iff.1 h2).1
   have hjs : j < es.size := by simpa using hjl
   have hsub : (es.eraseIdxIfInBounds j).toList = es.toList.eraseIdx j := by
    unfold Array.eraseIdxIfInBounds
    rw [dif_pos hjs]
    simp
   refine ⟨es.eraseIdxIfInBounds j, ?_, ?_, stamped_erase I.st j, hh⟩
   · simp [Builtin.delete_, run_underlying hT, MapKept.run_getObj_map hb, run_checkK hk hx, run_findK hk hx I.ent I.has, hf, MapKept.run_setObj_map _ hb, Result.andThen]
   · unfold mEnt
     rw [hsub, h4]
     have e := I.ent
     unfold mEnt at e
     rw [Go.ChangeMaps.map_eraseIdx, e, ← Go.ChangeMaps.map_eraseIdx]
end
end Go.Proofs.YtaogfopaalancaaDoor
/- The engine, part p: from the walk to the fenced walk; marks; small facts of ranges over functions. -/
set_option linter.unusedVariables false
namespace Go.Proofs.YtaogfopaalancaaDoor
open Go
abbrev FW (r : Option Nat) : Fence := { Fence.wide with round := r }
def isDefer (o : Oper) : Bool := match o.op with | .defer _ => true | _ => false
def exitsOf : Code → List Ex
 | .ret => [.ret]
 | .exit i => [.ext i]
 | .seq x y => exitsOf x ++ exitsOf y
 | .cond _ x y => exitsOf x ++ exitsOf y
 | .block i c => (exitsOf c).filter fun e => match e with | .ext j => !Nat.beq i j | _ => true
 | .loop c => exitsOf c
 | .scope c => exitsOf c
 | _ => []
section
variable {P : Program}
theorem callsIn_of {r : Option Nat} {n : Nat} {f : FuncId} {args : Array Value} {w : World} {R : Ending → World → Prop} (h : Calls P f args w R) : CallsIn (FW r) n P f args w R :=
 (callsIn_wide (n := n)).2 h
theorem rowsIn_of {r : Option Nat} {n : Nat} {row : String} {args : Array Value} {w : World} {R : Value → World → Prop} (h : Rows P row args w R) : RowsIn (FW r) n P row args w R :=
 fun c cs _ => let ⟨v, w', hR, hs⟩ := h c cs; ⟨v, w', hR, stepsIn_wide.2 hs⟩
def Dm (ds : List Deferred) (K : Act → World → Prop) : Act → World → Prop := fun a w => ∃ a0, K a0 w ∧ a = { a0 with defers := a0.defers ++ ds }
def DmQ (ds : List Deferred) (Q : Exit → Act → World → Prop) : Exit → Act → World → Prop := fun e a w => ∃ a0, Q e a0 w ∧ a = { a0 with defers := a0.defers ++ ds }
theorem put_dm (a : Act) (ds : List Deferred) (d : Option Tmp) (v : Value) : ({ a with defers := a.defers ++ ds } : Act).put d v = { a.put d v with defers := (a.put d v).defers ++ ds } := by
 cases d <;> rfl
theorem op_in {o : Oper} {a : Act} {w : World} {K : Act → World → Prop} {Q : Exit → Act → World → Prop} {r : Option Nat} {n : Nat} {ds : List Deferred} (hd : isDefer o = false) (hQ : ¬ LetsOut Q) (h : o.wp P a w K Q) :
 o.wpIn (FW r) n P { a with defers := a.defers ++ ds } w (Dm ds K) (DmQ ds Q) := by
 have hd' : ∀ c, o.op ≠ .defer c := fun c e => by unfold isDefer at hd; rw [e] at hd; cases hd
 refine ⟨fun _ _ => trivial, ?_⟩
 rw [Oper.semAt_eq _ _ _ hd']
 have he : ({ a with defers := a.defers ++ ds } : Act).eval = a.eval := by funext x; cases x <;> rfl
 rw [he]
 unfold Oper.wp at h
 generalize hres : (execOp a.eval o).run P w = res at h ⊢
 cases res with
 | ok nx w' =>
   cases nx <;> simp only [Oper.upon, Oper.uponIn] at h ⊢ <;> try exact h.elim
   case value v => exact ⟨_, h, put_dm _ _ _ _⟩
   case skip => exact ⟨_, h, put_dm _ _ _ _⟩
   case enter f args =>
    refine ⟨fun hh => (by cases hh), callsIn_of (h.mono fun e w'' he => ?_)⟩
    cases e with
    | returned v => exact ⟨_, he, put_dm _ _ _ _⟩
    | panicked c => exact ⟨_, he, rfl⟩
    | outgrown => exact absurd he hQ
   case row row args => exact ⟨fun hh => (by cases hh), rowsIn_of (Rows.mono h fun v w'' he => ⟨_, he, put_dm _ _ _ _⟩)⟩
   case defer d => exact ⟨_, h, put_dm { a with defers := d :: a.defers } ds _ _⟩
 | halt x w' =>
   cases x <;> simp only [Oper.upon, Oper.uponIn] at h ⊢ <;> try exact h.elim
   case panic v => exact ⟨_, h, rfl⟩
theorem any_in {ops : Array Oper} {Q : Exit → Act → World → Prop} {r : Option Nat} {n : Nat} {ds : List Deferred} (hd : ∀ o ∈ ops.toList, isDefer o = false) (hQ : ¬ LetsOut Q) : ∀ (fuel : Nat) (listed : Array Bool) (a : Act) (w : World),
 wpAny P .any ops Q fuel listed a w → wpAnyIn (FW r) n P .any ops (DmQ ds Q) fuel listed { a with defers := a.defers ++ ds } w
 | 0, listed, a, w, h => ⟨h.1, _, h.2, rfl⟩
 | fuel + 1, listed, a, w, h => by
   refine ⟨fun hr => ⟨_, h.1 hr, rfl⟩, fun i hi => ?_⟩
   have h1 := h.2 i hi
   unfold wpOp at h1
   unfold wpOpIn
   cases ho : ops[i]? with
   | none => rw [ho] at h1; exact any_in hd hQ fuel _ a w h1
   | some o =>
     rw [ho] at h1
     simp only at h1 ⊢
     split
     · rename_i hw
       rw [if_pos hw] at h1
       have hom : o ∈ ops.toList := by simpa using Array.mem_of_getElem? ho
       rcases h1 with h1 | ⟨-, h1⟩
       · refine Oper.wpIn_mono (fun a' w' hh => ?_) (op_in (ds := ds) (hd o hom) hQ h1)
         obtain ⟨a0, h2, rfl⟩ := hh
         exact any_in hd hQ fuel _ a0 w' h2
       · exact absurd h1 hQ
     · rename_i hw
       rw [if_neg hw] at h1
       refine ⟨fun _ _ => trivial, ?_⟩
       rw [put_dm]
       exact any_in hd hQ fuel _ _ w h1
theorem opq_mono {Qa Qb : Exit → Act → World → Prop} {r : Option Nat} {n : Nat} (hq : ∀ e a w, Qa e a w → Qb e a w) {o : Oper} {a1 : Act} {w1 : World} {K : Act → World → Prop} (h : o.wpIn (FW r) n P a1 w1 K Qa) : o.wpIn (FW r) n P a1 w1 K Qb := by
 refine ⟨h.1, ?_⟩
 have h4 := h.2
 generalize (Oper.semAt (FW r).round a1.eval o).run P w1 = res at h4 ⊢
 cases res with
 | ok nx w' =>
   cases nx <;> simp only [Oper.uponIn] at h4 ⊢ <;> try exact h4
   case enter f args =>
    refine ⟨h4.1, h4.2.mono fun e w'' he => ?_⟩
    cases e with
    | returned v => exact he
    | panicked c => exact hq _ _ _ he
    | outgrown => obtain ⟨a2, w2, h⟩ := he; exact ⟨a2, w2, hq _ _ _ h⟩
   case round l f tmps assign body =>
    refine ⟨h4.1, RoundIn.mono h4.2 fun e w'' he => ?_⟩
    cases e with
    | returned v => exact he
    | panicked c => exact hq _ _ _ he
    | outgrown => obtain ⟨a2, w2, h⟩ := he; exact ⟨a2, w2, hq _ _ _ h⟩
 | halt x w' =>
   cases x <;> simp only [Oper.uponIn] at h4 ⊢ <;> try exact h4
   case panic v => exact hq _ _ _ h4
theorem anyq_mono {Qa Qb : Exit → Act → World → Prop} {r : Option Nat} {n : Nat} {ops : Array Oper} (hq : ∀ e a w, Qa e a w → Qb e a w) : ∀ (fuel : Nat) (listed : Array Bool) (a1 : Act) (w1 : World), wpAnyIn (FW r) n P .any ops Qa fuel listed a1 w1 → wpAnyIn (FW r) n P .any ops Qb fuel listed a1 w1 := by
 intro fuel
 induction fuel with
 | zero => intro listed a1 w1 h; exact ⟨h.1, hq _ _ _ h.2⟩
 | succ fuel ih =>
   intro listed a1 w1 h
   refine ⟨fun hr => hq _ _ _ (h.1 hr), fun i hi => ?_⟩
   have := h.2 i hi
   unfold wpOpIn at this ⊢
   split
   · rename_i ho; rw [ho] at this; exact ih _ _ _ this
   · rename_i o ho
     rw [ho] at this
     simp only at this
     split
     · rename_i hw; rw [if_pos hw] at this; exact Oper.wpIn_mono (fun a' w' hh => ih _ _ _ hh) (opq_mono hq this)
     · rename_i hw; rw [if_neg hw] at this; exact ⟨this.1, ih _ _ _ this.2⟩
theorem op_in0 {o : Oper} {a : Act} {w : World} {K : Act → World → Prop} {Q : Exit → Act → World → Prop} {r : Option Nat} {n : Nat} (hd : isDefer o = false) (h : o.wp P a w K (fun _ _ _ => False)) : o.wpIn (FW r) n P a w K Q := by
 have h2 := op_in (r := r) (n := n) (ds := []) hd (fun ⟨_, _, h⟩ => h) h
 rw [List.append_nil] at h2
 exact Oper.wpIn_mono (fun a' w' hh => by
  obtain ⟨a0, hK, rfl⟩ := hh
  rw [List.append_nil]; exact hK) (opq_mono (fun e a w hq => by obtain ⟨_, h, _⟩ := hq; exact h.elim) h2)
def mark (D : Nat) : Deferred := { target := .collected D, args := #[] }
theorem stepR_scope' {b : Frame} {a : Act} {k : List Item} {cs : List Frame} {w : World} {c : Code} : step P (lone (b.atR a (.code (.scope c) :: k)) cs w) = .next (lone (b.atR a (.code c :: .inScope c :: k)) cs w) :=
 step_lone_go (by simp [stepG, stepG.exec, Frame.atR])
theorem stepR_inScope' {b : Frame} {a : Act} {k : List Item} {cs : List Frame} {w : World} {c : Code} : step P (lone (b.atR a (.inScope c :: k)) cs w) = .next (lone (b.atR a k) cs w) :=
 step_lone_go (by simp [stepG, stepG.exec, Frame.atR])
theorem wpIn_scope {F : Fence} {n : Nat} {c : Code} {Q : Exit → Act → World → Prop} {a : Act} {w : World} (h : c.wpIn F n P (Exit.noGoto Q) a w) : (Code.scope c).wpIn F n P Q a w := by
 intro b k cs hro hb hr
 have h0 : (lone (b.atR a (.code (.scope c) :: k)) cs w).fenced P F := fenced_calm hb hr rfl
 obtain ⟨e, a₁, w₁, hq, harr⟩ := h b (.inScope c :: k) cs hro hb hr
 cases e with
 | normal => exact ⟨.normal, a₁, w₁, hq, .head h0 stepR_scope' (StepsIn.trans harr (.one (fenced_calm hb hr rfl) stepR_inScope'))⟩
 | exit id' =>
   have hx : exitTo id' (.inScope c :: k) = exitTo id' k := by simp [exitTo]
   exact ⟨.exit id', a₁, w₁, hq, fun k' hk => .head h0 stepR_scope' (harr.1 k' (by rw [hx]; exact hk)),
    fun hr' hk => let ⟨k₁, h1, h2⟩ := harr.2 hr' (by rw [hx]; exact hk); ⟨k₁, h1, .head h0 stepR_scope' h2⟩⟩
 | goto l => exact hq.elim
 | ret => exact ⟨_, a₁, w₁, hq, .of_steps (.one h0 stepR_scope') harr⟩
 | panic ch => exact ⟨_, a₁, w₁, hq, .of_steps (.one h0 stepR_scope') harr⟩
 | outgrown => exact ⟨_, a₁, w₁, hq, .of_steps (.one h0 stepR_scope') harr⟩
theorem lset_set : ∀ (l : List Value) (n : Nat) (v : Value), lset l n v = l.set n v
 | [], _, _ => rfl
 | _ :: _, 0, _ => rfl
 | x :: l, n + 1, v => by simp only [lset, List.set_cons_succ, lset_set l n v]
theorem setAll_fold : ∀ (ps : List Tmp) (as' : List Value) (t : Array Value), ((ps.zip as').foldl (fun (tmps : Array Value) (x : Tmp × Value) => tmps.setIfInBounds x.1 x.2) t).toList = setAll t.toList ps as'
 | [], as', t => by cases as' <;> rfl
 | p :: ps, [], t => by simp [setAll]
 | p :: ps, v :: as', t => by
   rw [List.zip_cons_cons, List.foldl_cons, setAll_fold ps as']
   simp only [setAll, lset_set, Array.toList_setIfInBounds]
theorem Same.put (w : World) (r : Nat) (o : Obj) : Same w (w.putObj r o) := ⟨rfl, rfl, rfl, .refl _⟩
theorem Same.alloc (w : World) (o : Obj) : Same w (w.alloc o) := ⟨rfl, rfl, rfl, .refl _⟩
end
end Go.Proofs.YtaogfopaalancaaDoor
/- From the rows' reading of arguments to data: any type of numbers, truth values, strings, structs, arrays and slices. -/
set_option linter.unusedVariables false
namespace Go.Proofs.YtaogfopaalancaaDoor
open Go Go.Proofs
inductive Ds where
 | nil
 | i (k : IntKind) (r : Ds)
 | b (r : Ds)
 | s (r : Ds)
 | l (z : Nat) (e r : Ds)
def contig (P : Program) : List Field → Nat → Nat → Bool
 | [], o, n => o == n
 | f :: fs, o, n => f.offset == o && contig P fs (o + P.cellsOf f.type) n
def dsAll (g : TypeId → Ds → Option Ds) : List TypeId → Ds → Option Ds
 | [], r => some r
 | t :: ts, r => (dsAll g ts r).bind (g t)
def dsOf (P : Program) : Nat → TypeId → Ds → Option Ds
 | 0, _, _ => none
 | n + 1, t, r =>
   match P.underlying t with
   | some .bool => some (.b r)
   | some (.int k) => some (.i k r)
   | some .string => some (.s r)
   | some (.slice e) => if P.cellsOf e = 0 then none else (dsOf P n e .nil).map fun d => .l (P.cellsOf e) d r
   | some (.struct fs) => if contig P fs.toList 0 (P.cellsOf t) then dsAll (dsOf P n) (fs.toList.map (·.type)) r else none
   | some (.array m e) => if P.cellsOf t = m * P.cellsOf e then dsAll (dsOf P n) (List.replicate m e) r else none
   | _ => none
def ShU : Ds → List U → Prop
 | .nil, us => us = []
 | .i k r, us => ∃ n us', us = .i k n :: us' ∧ (Lit.int k n).wf = true ∧ ShU r us'
 | .b r, us => ∃ c us', us = .b c :: us' ∧ ShU r us'
 | .s r, us => ∃ x us', us = .s x :: us' ∧ x.size ≤ maxLen ∧ ShU r us'
 | .l z e r, us => ∃ rows us', us = .l z rows :: us' ∧ rows.length ≤ maxLen ∧ (∀ row ∈ rows, ShU e row) ∧ ShU r us'
theorem RdL.append {D : Fz} {vs ws : List Value} {us xs : List U} (h : RdL D vs us) (k : RdL D ws xs) : RdL D (vs ++ ws) (us ++ xs) := by
 induction h with
 | nil => exact k
 | cons a _ ih => exact .cons a ih
theorem mapM_get {α β : Type} {f : α → Option β} : ∀ {l : List α} {r : List β}, l.mapM f = some r → r.length = l.length ∧ ∀ (i : Nat) (x : α), l[i]? = some x → ∃ y, f x = some y ∧ r[i]? = some y
 | [], r, h => by simp at h; subst h; exact ⟨rfl, by simp⟩
 | x :: l, r, h => by
   rw [List.mapM_cons] at h
   cases hx : f x with
   | none => rw [hx] at h; cases h
   | some y =>
     rw [hx] at h
     cases hl : l.mapM f with
     | none => rw [hl] at h; cases h
     | some ys =>
       rw [hl] at h
       cases h
       obtain ⟨h1, h2⟩ := mapM_get hl
       refine ⟨by simp [h1], fun i z hz => ?_⟩
       cases i with
       | zero => simp at hz; subst hz; exact ⟨y, hx, rfl⟩
       | succ i => simpa using h2 i z (by simpa using hz)
section
variable {H : Type} {enc : TypeId × Value → H} {P : Program} {w : World} {sp : Nat → Bool} {held : Bool}
def allD (h : Heap) [GlH h] : Fz := ⟨fun b => h[b]?, GlH.g⟩
theorem all_rd {R : List Value → List U → Prop} (hR : ∀ {a b us xs}, R a us → R b xs → R (a ++ b) (us ++ xs)) (hR0 : R [] []) {g : TypeId → Ds → Option Ds} {r : TypeId → List Value → Option (DataW H × List MemPlace)}
 (ih : ∀ t cs x d rest, g t rest = some d → r t cs = some x → ∃ us, R cs us ∧ us.length = cs.length ∧ ∀ us', ShU rest us' → ShU d (us ++ us')) :
 ∀ (ts : List TypeId) (css : List (List Value)) (d rest : Ds), dsAll g ts rest = some d → css.length = ts.length → (∀ (i : Nat) (t : TypeId) (cs : List Value), ts[i]? = some t → css[i]? = some cs → ∃ x, r t cs = some x) →
   ∃ us, R css.flatten us ∧ us.length = css.flatten.length ∧ ∀ us', ShU rest us' → ShU d (us ++ us')
 | [], css, d, rest, hd, hl, _ => by
   have : css = [] := List.eq_nil_of_length_eq_zero hl
   subst this
   cases hd
   exact ⟨[], hR0, rfl, fun us' h => h⟩
 | t :: ts, css, d, rest, hd, hl, hx => by
   cases css with
   | nil => simp at hl
   | cons cs css =>
     simp only [dsAll, Option.bind_eq_some_iff] at hd
     obtain ⟨d1, hd1, hd2⟩ := hd
     obtain ⟨us, h1, h2, h3⟩ := all_rd hR hR0 ih ts css d1 rest hd1 (by simpa using hl) fun i t' cs' a b => hx (i + 1) t' cs' (by simpa using a) (by simpa using b)
     obtain ⟨x, hxx⟩ := hx 0 t cs rfl rfl
     obtain ⟨vs, g1, g2, g3⟩ := ih t cs x d d1 hd2 hxx
     exact ⟨vs ++ us, by simpa using hR g1 h1, by simp [g2, h2], fun us' hu => by rw [List.append_assoc]; exact g3 _ (h3 _ hu)⟩
theorem cells_get {a : Addr} {n : Nat} {cs : List Value} (h : w.cells? 0 a n = some cs) : cs.length = n ∧ ∀ j, j < n → w.cell? (a.add j) = cs[j]? := by
 unfold World.cells? at h
 rw [if_pos (Nat.zero_le _)] at h
 obtain ⟨h1, h2⟩ := mapM_get h
 refine ⟨by simpa using h1, fun j hj => ?_⟩
 obtain ⟨y, e1, e2⟩ := h2 j j (by simp [hj])
 rw [e1, e2]
theorem drops {P : Program} {cs : List Value} : ∀ (fs : List Field) (o : Nat), contig P fs o cs.length = true → o ≤ cs.length → (fs.map fun f => (cs.drop f.offset).take (P.cellsOf f.type)).flatten = cs.drop o
 | [], o, h, _ => by simp only [contig, beq_iff_eq] at h; subst h; simp
 | f :: fs, o, h, ho => by
   simp only [contig, Bool.and_eq_true, beq_iff_eq] at h
   obtain ⟨rfl, h2⟩ := h
   have hle : f.offset + P.cellsOf f.type ≤ cs.length := by
    have : ∀ (fs : List Field) (o : Nat), contig P fs o cs.length = true → o ≤ cs.length := by
     intro fs
     induction fs with
     | nil => intro o h; simp only [contig, beq_iff_eq] at h; omega
     | cons f fs ih => intro o h; simp only [contig, Bool.and_eq_true, beq_iff_eq] at h; have := ih _ h.2; omega
    exact this _ _ h2
   rw [List.map_cons, List.flatten_cons, drops fs _ h2 hle, ← List.drop_drop, List.take_append_drop]
theorem drops_arr {cs : List Value} {k : Nat} : ∀ (m o : Nat), cs.length = (o + m) * k → ((List.range m).map fun i => (cs.drop ((o + i) * k)).take k).flatten = cs.drop (o * k)
 | 0, o, h => by simp [h]
 | m + 1, o, h => by
   rw [List.range_succ_eq_map, List.map_cons, List.flatten_cons, List.map_map]
   have h1 := drops_arr (cs := cs) (k := k) m (o + 1) (by rw [h]; congr 1; omega)
   have : ((List.range m).map ((fun i => (cs.drop ((o + i) * k)).take k) ∘ Nat.succ)) = (List.range m).map fun i => (cs.drop ((o + 1 + i) * k)).take k := List.map_congr_left fun i _ => by simp only [Function.comp, Nat.succ_eq_add_one]; rw [show o + (i + 1) = o + 1 + i by omega]
   rw [this, h1, Nat.add_zero, show (o + 1) * k = o * k + k by rw [Nat.succ_mul], ← List.drop_drop, List.take_append_drop]
variable [GlH w.heap]
set_option maxRecDepth 10000 in
theorem trod_rd : ∀ (m n : Nat) (t : TypeId) (cs : List Value) (x : DataW H × List MemPlace) (d rest : Ds), dsOf P m t rest = some d → DataW.trod enc P w 0 sp held n t cs = some x →
 ∃ us, RdL (allD w.heap) cs us ∧ us.length = cs.length ∧ ∀ us', ShU rest us' → ShU d (us ++ us')
 | 0, n, t, cs, x, d, rest, hd, hx => by cases hd
 | m + 1, 0, t, cs, x, d, rest, hd, hx => by cases hx
 | m + 1, n + 1, t, cs, x, d, rest, hd, hx => by
   have ih := trod_rd m n
   rw [DataW.trod_step] at hx
   unfold dsOf at hd
   cases hu : P.underlying t with
   | none => rw [hu] at hd; cases hd
   | some td =>
     rw [hu] at hd
     cases td with
     | bool =>
       cases hd
       unfold DataW.trodStep at hx
       rw [hu] at hx
       split at hx <;> simp_all
       exact ⟨[.b _], .cons (.bool _) .nil, rfl, fun us' h => ⟨_, us', rfl, h⟩⟩
     | int k =>
       cases hd
       unfold DataW.trodStep at hx
       rw [hu] at hx
       split at hx <;> simp_all
       rename_i k' nn e1
       obtain ⟨⟨rfl, hw⟩, -⟩ := hx
       exact ⟨[.i k' nn], .cons (.int _ _) .nil, rfl, fun us' h => ⟨nn, us', rfl, hw, h⟩⟩
     | string =>
       cases hd
       unfold DataW.trodStep at hx
       rw [hu] at hx
       split at hx <;> simp_all
       exact ⟨[.s _], .cons (.str _) .nil, rfl, fun us' h => ⟨_, us', rfl, hx.1, h⟩⟩
     | slice e =>
       simp only at hd
       split at hd
       · cases hd
       rename_i hce
       simp only [Option.map_eq_some_iff] at hd
       obtain ⟨de, hde, rfl⟩ := hd
       rw [← DataW.trod_step] at hx
       rcases Go.Deep.open_slice hu hx with ⟨rfl, -⟩ | ⟨a, len, cap, mm, n', DD, Pl, rfl, hb, hl, hm, hmm, -, hel⟩
       · exact ⟨[.l (P.cellsOf e) []], .cons (.nil _ _ _) .nil, rfl, fun us' h => ⟨[], us', rfl, by simp, by simp, h⟩⟩
       have hlm : len ≤ mm := by rw [hmm]; split <;> omega
       by_cases h0 : len = 0
       · subst h0
         exact ⟨[.l (P.cellsOf e) []], .cons (.nil _ _ _) .nil, rfl, fun us' h => ⟨[], us', rfl, by simp, by simp, h⟩⟩
       have each : ∀ i, ∃ q : List Value × List U, i < len → w.cells? 0 (a.add (i * P.cellsOf e)) (P.cellsOf e) = some q.1 ∧ RdL (allD w.heap) q.1 q.2 ∧ q.2.length = q.1.length ∧ ShU de q.2 := by
        intro i
        by_cases hi : i < len
        · obtain ⟨cs', h1, h2⟩ := hel i (by omega)
          obtain ⟨us, g1, g2, g3⟩ := trod_rd m n' e cs' _ de .nil hde h2
          exact ⟨(cs', us), fun _ => ⟨h1, g1, g2, by simpa using g3 [] rfl⟩⟩
        · exact ⟨([], []), fun h => absurd h hi⟩
       have each' : ∀ i, ∃ q : List Value × List U, i < len → w.cells? 0 (a.add (i * P.cellsOf e)) (P.cellsOf e) = some q.1 ∧ RdL (allD w.heap) q.1 q.2 ∧ q.2.length = q.1.length ∧ ShU de q.2 := each
       let Q : Nat → List Value × List U := fun i => Classical.choose (each' i)
       have hQ : ∀ i, i < len → w.cells? 0 (a.add (i * P.cellsOf e)) (P.cellsOf e) = some (Q i).1 ∧ RdL (allD w.heap) (Q i).1 (Q i).2 ∧ (Q i).2.length = (Q i).1.length ∧ ShU de (Q i).2 := fun i => Classical.choose_spec (each' i)
       obtain ⟨b, o, spot⟩ := a
       have hc0 : ∀ i j, i < len → j < P.cellsOf e → w.cell? (((⟨b, o, spot⟩ : Addr).add (i * P.cellsOf e)).add j) = (Q i).1[j]? ∧ j < (Q i).1.length := fun i j hi hj => by
        obtain ⟨h1, h2⟩ := cells_get (hQ i hi).1
        exact ⟨h2 j hj, by omega⟩
       have hsp : spot = none := by
        cases spot with
        | none => rfl
        | some z =>
          exfalso
          obtain ⟨h1, h2⟩ := hc0 0 0 (by omega) (by omega)
          rw [List.getElem?_eq_getElem h2] at h1
          have : w.cell? ⟨b, o, some z⟩ = some ((Q 0).1[0]) := by simpa [Addr.add] using h1
          unfold World.cell? at this
          split at this
          · simp at this
          · cases this
       subst hsp
       have hcell : ∀ i j, i < len → j < P.cellsOf e → hcell w.heap ⟨b, o + i * P.cellsOf e + j, none⟩ = (Q i).1[j]? := fun i j hi hj => by
        have h1 := (hc0 i j hi hj).1
        rw [add_plain, add_plain] at h1
        exact h1
       have hblk : ∃ arr T f, w.heap[b]? = some (.cells arr T f) := by
        have h1 := hcell 0 0 (by omega) (by omega)
        rw [List.getElem?_eq_getElem (hc0 0 0 (by omega) (by omega)).2] at h1
        unfold YtaogfopaalancaaDoor.hcell at h1
        cases hbb : w.heap[b]? with
        | none => simp [hbb] at h1
        | some ob =>
          cases ob <;> simp [hbb] at h1
          exact ⟨_, _, _, rfl⟩
       obtain ⟨arr, T, f, hbk⟩ := hblk
       have hlen : ((List.range len).map fun i => (Q i).2).length = len := by simp
       have hrow : ∀ {i : Nat} {r : List U}, ((List.range len).map fun i => (Q i).2)[i]? = some r → i < len ∧ r = (Q i).2 := fun {i r} hr => by
        rw [List.getElem?_map] at hr
        cases hri : (List.range len)[i]? with
        | none => rw [hri] at hr; cases hr
        | some k =>
          rw [hri] at hr
          obtain ⟨h1, h2⟩ := List.getElem?_eq_some_iff.1 hri
          simp at h1 h2 hr
          subst h2
          exact ⟨h1, hr.symm⟩
       have hr : Rd (allD w.heap) (.slice (some ⟨b, o, none⟩) len cap) (.l (P.cellsOf e) ((List.range len).map fun i => (Q i).2)) := by
        have := Rd.row (D := allD w.heap) b o cap arr T f ((List.range len).map fun i => (Q i).2) (P.cellsOf e) (fun i j => (Q i).1.getD j undef) hbk (by rw [hlen]; exact hl)
         (fun r hr => by
          obtain ⟨i, hi, rfl⟩ := List.mem_map.1 hr
          have hi' : i < len := by simpa using hi
          rw [(hQ i hi').2.2.1, (cells_get (hQ i hi').1).1])
         (fun i j r u hi hj => by
          obtain ⟨h1, rfl⟩ := hrow hi
          have hj' : j < P.cellsOf e := by
           have := (List.getElem?_eq_some_iff.1 hj).1
           rwa [(hQ i h1).2.2.1, (cells_get (hQ i h1).1).1] at this
          have := hcell i j h1 hj'
          rw [hcell_of hbk] at this
          rw [this]
          simp [(hc0 i j h1 hj').2])
         (fun i j r u hi hj => by
          obtain ⟨h1, rfl⟩ := hrow hi
          obtain ⟨v, hv, hrd⟩ := (hQ i h1).2.1.get hj
          simp only [List.getD_eq_getElem?_getD, hv, Option.getD_some]; exact hrd)
        rwa [hlen] at this
       refine ⟨[.l (P.cellsOf e) _], .cons hr .nil, rfl, fun us' h => ⟨_, us', rfl, by rw [hlen]; omega, fun row hrow' => ?_, h⟩⟩
       obtain ⟨i, hi, rfl⟩ := List.mem_map.1 hrow'
       exact (hQ i (by simpa using hi)).2.2.2
     | struct fs =>
       simp only at hd
       split at hd
       · rename_i hct
         unfold DataW.trodStep at hx
         rw [hu] at hx
         simp only at hx
         split at hx
         · rename_i hl
           simp only [Option.map_eq_some_iff] at hx
           obtain ⟨xs, hxs, -⟩ := hx
           obtain ⟨h1, h2⟩ := mapM_get hxs
           rw [← hl] at hct
           have hfl := drops fs.toList 0 hct (Nat.zero_le _)
           rw [List.drop_zero] at hfl
           have := all_rd (R := RdL (allD w.heap)) (fun a b => a.append b) .nil (g := dsOf P m) (r := DataW.trod enc P w 0 sp held n) (fun t cs x d rest a b => ih t cs x d rest a b) (fs.toList.map (·.type)) (fs.toList.map fun f => (cs.drop f.offset).take (P.cellsOf f.type)) d rest hd (by simp) fun i t' cs' a b => by
            rw [List.getElem?_map] at a b
            cases hf : fs.toList[i]? with
            | none => rw [hf] at a; cases a
            | some f =>
              rw [hf] at a b
              cases a; cases b
              obtain ⟨y, hy, -⟩ := h2 i f hf
              exact ⟨y, hy⟩
           rw [hfl] at this
           exact this
         · cases hx
       · cases hd
     | array k e =>
       simp only at hd
       split at hd
       · rename_i hct
         unfold DataW.trodStep at hx
         rw [hu] at hx
         simp only at hx
         split at hx
         · rename_i hl
           simp only [Option.map_eq_some_iff] at hx
           obtain ⟨xs, hxs, -⟩ := hx
           obtain ⟨h1, h2⟩ := mapM_get hxs
           rw [hct] at hl
           have hfl := drops_arr (cs := cs) (k := P.cellsOf e) k 0 (by rw [hl, Nat.zero_add])
           rw [Nat.zero_mul, List.drop_zero] at hfl
           simp only [Nat.zero_add] at hfl
           have := all_rd (R := RdL (allD w.heap)) (fun a b => a.append b) .nil (g := dsOf P m) (r := DataW.trod enc P w 0 sp held n) (fun t cs x d rest a b => ih t cs x d rest a b) (List.replicate k e) ((List.range k).map fun i => (cs.drop (i * P.cellsOf e)).take (P.cellsOf e)) d rest hd (by simp) fun i t' cs' a b => by
            rw [List.getElem?_map] at b
            obtain ⟨a1, a2⟩ := List.getElem?_eq_some_iff.1 a
            simp at a1 a2
            subst a2
            rw [List.getElem?_range a1] at b
            cases b
            obtain ⟨y, hy, -⟩ := h2 i i (by simp [a1])
            exact ⟨y, hy⟩
           rw [hfl] at this
           exact this
         · cases hx
       · cases hd
     | _ => cases hd
end
theorem rows_of {α : Type} {e : α → List U} {Q : α → Prop} {d : Ds} (hc : ∀ r, ShU d r → ∃ x, r = e x ∧ Q x) {rows : List (List U)} (h : ∀ r ∈ rows, ShU d r) : ∃ l : List α, rows = l.map e ∧ ∀ x ∈ l, Q x := by
 induction rows with
 | nil => exact ⟨[], rfl, by simp⟩
 | cons r rows ih =>
   obtain ⟨l, rfl, hl⟩ := ih fun r hr => h r (by simp [hr])
   obtain ⟨x, rfl, hx⟩ := hc r (h r (by simp))
   exact ⟨x :: l, rfl, fun y hy => by rcases List.mem_cons.1 hy with rfl | hy; exact hx; exact hl y hy⟩
section
variable {H : Type} {enc : TypeId × Value → H} {P : Program} {W : World} {sp : Nat → Bool} {held : Bool} [GlH W.heap]
theorem open_data {t : TypeId} {ds : Ds} {v : Value} {d : DataW H} {ps : List MemPlace} (hd : dsOf P 12 t .nil = some ds) (h : DataW.Trod enc P W 0 sp held t v d ps) : ∃ us, RdL (allD W.heap) v.cells.toList us ∧ ShU ds us := by
 obtain ⟨fuel, hf⟩ := h
 obtain ⟨us, h1, -, h3⟩ := trod_rd 12 fuel t _ _ ds .nil hd hf
 exact ⟨us, h1, by simpa using h3 [] rfl⟩
end
def in64 (x : Int) : Prop := -9223372036854775808 ≤ x ∧ x ≤ 9223372036854775807
theorem in64_of {n : Int} (h : (Lit.int .i64 n).wf = true) : in64 n := by
 have h1 : IntKind.min .i64 = -9223372036854775808 := by decide
 have h2 : IntKind.max .i64 = 9223372036854775807 := by decide
 simp only [Lit.wf, h1, h2, Bool.and_eq_true, decide_eq_true_eq] at h
 exact h
theorem St.all (h : Heap) [GlH h] : St (allD h) [] h := ⟨by simp [ids], by simp, fun b o hb => ⟨hb, by simp [ids]⟩⟩
theorem St.kept {h h' : Heap} [GlH h] {C : List Chunk} {D : Fz} (l : Le (allD h) D) (S : St D C h') : Keep h h' where
 size := by
  rcases Nat.lt_or_ge h'.size h.size with hlt | hge
  · exfalso
    have h1 := (S.fz h'.size _ (l _ _ (show allD h h'.size = some h[h'.size] by simp [allD, hlt]))).1
    have := lt_of_get h1; omega
  · exact hge
 blk b hb _ := by
  have h1 := (S.fz b _ (l _ _ (show allD h b = some h[b] by simp [allD, hb]))).1
  rw [h1]; simp [hb]
end Go.Proofs.YtaogfopaalancaaDoor
