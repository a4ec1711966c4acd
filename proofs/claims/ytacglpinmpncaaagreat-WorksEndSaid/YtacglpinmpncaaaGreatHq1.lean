/- The engine, part p: from the walk to the fenced walk; marks; small facts of ranges over functions. -/
import Derived.Shelf.Lays2
import Derived.Test.YtacglpinmpncaaaGreatProg
import Derived.WalkKit
import Derived.Orders
import Derived.KernelRfl
import Derived.Shelf.SlLaysF0
import Derived.Ground.SlsfProg
import Derived.Shelf.Bits.Mul64
import Derived.Shelf.SlSortCmp.NoneTotal
import Derived.ChangeKeysEq
import Derived.MapKept
import Derived.ProofKit
import Derived.Deep.Slices
import Derived.ChangeMaps4
import Derived.RangeFuncIn
import Derived.RangeFuncLeaves
import Derived.RangeFuncRecord
import Derived.OrdersIn
import Derived.TacticsIn
set_option linter.unusedVariables false
namespace Go.Proofs.YtacglpinmpncaaaGreat
variable {listed : Array Bool} {args c : Array Value} {op : BinOp} {Q : Exit → Act → World → Prop} {k : IntKind} {es : List MapEntry} {F done md : List Nat} {ops : List Oper} {cs t vs : List Value} {b sz : Nat} {o : Oper} {a : Option Addr} {r : Option Nat} {P : Program} {A : Prop} {α : Type} {E T e : TypeId} {v z : Value} {w : World} {C : World → Prop}
open _root_.Array renaming getD_eq_getD_getElem? → z1o, getElem?_append_left → z10, getElem?_eq_some_iff → z2y, getElem?_modify → z1y, getElem?_push → z2p, getElem?_replicate → z3b, getElem?_toList → z3a, length_toList → z1z, mapM_eq_mapM_toList → z2x, toArray_toList → z0n
open _root_.Bool renaming and_eq_true → zyy, false_eq_true → z0x, not_eq_true' → zzt, not_false → z2m, not_true → z0c, or_eq_true → z1p
open _root_.Int renaming le_refl → zzk
open _root_.Go.IntKind renaming wrap → zyu
open _root_.List renaming all_cons → z1g, all_eq_true → z0d, append_assoc → zy8, append_nil → zzw, cons_append → zz6, drop_drop → z08, drop_eq_getElem_cons → z1e, drop_eq_nil_of_le → z0u, drop_zero → z09, eq_nil_of_length_eq_zero → z0p, eraseIdx_cons_succ → z3c, ext_getElem? → z1a, find?_eq_none → z2d, find?_some → z2o, flatMap_cons → z2z, flatMap_def → z2r, flatten_cons → zzd, getD_eq_getElem?_getD → z07, getElem?_append_left → zy7, getElem?_append_right → zzn, getElem?_cons_succ → z2c, getElem?_drop → z1d, getElem?_eq_getElem → zy0, getElem?_eq_some_iff → zyz, getElem?_map → zy5, getElem?_take → z0l, getElem?_toArray → z0a, length → zyv, length_append → zzl, length_cons → zzg, length_nil → z0z, mapM_cons → z1x, map_append → zzr, map_cons → zzj, map_drop → z1f, map_map → zz9, map_take → z03, mem_append → zy6, mem_cons → zy3, mem_iff_getElem? → zz4, mem_map → zzu, mem_of_find?_eq_some → z2n, mem_of_getElem? → zy4, mem_of_mem_drop → z1s, mem_of_mem_take → z1r, mem_range → z1c, mem_singleton → z0s, mem_singleton_self → zzx, nodup_append → z01, pairwise_iff_getElem → z1t, perm_append_comm → z1q, range → zzh, replicate → zzi, set_cons_succ → z2a, size_toArray → z00, take_append_drop → z0h, take_nil → z2q, take_of_length_le → z0v, zip_cons_cons → z3d
open _root_.Nat renaming add_assoc → z0t, add_mul → z0j, add_zero → z0y, beq → zyw, ble → zzc, eq_of_beq_eq_true → zy1, le_of_ble_eq_true → zz0, le_refl → zy9, le_succ → z0i, lt_of_lt_of_le → z2b, lt_or_ge → z0o, mul_le_mul_right → z0k, succ_mul → zzy, zero_add → zze, zero_le → zzv, zero_mul → z11
open _root_.Option renaming getD_some → zz8, map_eq_some_iff → z0e, map_some → z0g
open _root_.Go.Result renaming andThen_ok → zza
abbrev Stk := Int × Int
def zjm : Int := 1125899906842624
def tot (l : List Stk) (k : Int) : Int :=
 match l with
 | [] => 0
 | s :: l => (if s.1 = k then s.2 else 0) + tot l k
def zt3 (l : List Stk) : Prop := ∀ s ∈ l, 1 ≤ s.1 ∧ 0 ≤ s.2
def over (l : List Stk) : Prop := ∃ s ∈ l, zjm < tot l s.1
def rng (l : List Stk) : Prop := ∀ s ∈ l, (-9223372036854775808 ≤ s.1 ∧ s.1 ≤ 9223372036854775807) ∧ (-9223372036854775808 ≤ s.2 ∧ s.2 ≤ 9223372036854775807)
instance (l : List Stk) : Decidable (zt3 l) := by unfold zt3; infer_instance
instance (l : List Stk) : Decidable (over l) := by unfold over; infer_instance
def errN (l : List Stk) : Int := if zt3 l then (if over l then 5 else 0) else 1
theorem zgb (a b : List Stk) (k : Int) : tot (a ++ b) k = tot a k + tot b k := by
 induction a with
 | nil => simp [tot]
 | cons s a ih => simp only [zz6, tot, ih]; omega
theorem ztc {l : List Stk} (h : zt3 l) (k : Int) : 0 ≤ tot l k := by
 induction l with
 | nil => simp [tot]
 | cons s l ih =>
   have h1 := h s (by simp)
   have h2 := ih fun x hx => h x (by simp [hx])
   simp only [tot]; split <;> omega
theorem zra {l : List Stk} {k : Int} (h : k ∉ l.map (·.1)) : tot l k = 0 := by
 induction l with
 | nil => rfl
 | cons s l ih =>
   simp only [zzj, zy3, not_or] at h
   simp only [tot]
   rw [if_neg (Ne.symm h.1), ih h.2]; rfl
theorem errN_bad {l : List Stk} (h : ¬ zt3 l) : errN l = 1 := by unfold errN; rw [if_neg h]
theorem zxz {l : List Stk} (h : zt3 l) (ho : over l) : errN l = 5 := by unfold errN; rw [if_pos h, if_pos ho]
theorem errN_ok {l : List Stk} (h : zt3 l) (ho : ¬ over l) : errN l = 0 := by unfold errN; rw [if_pos h, if_neg ho]
end Go.Proofs.YtacglpinmpncaaaGreat
namespace Go.Proofs
open Go.Shelf
def Tryz.insL_ren : Go.Shelf.Ren := ⟨fun | 21 => 343 | 27 => 373 | 28 => 374 | 35 => 383 | 39 => 386 | n => n, fun | 22 => 134 | 3 => 3 | 4 => 4 | 0 => 0 | n => n, fun | n => n⟩
theorem Tryz.insL : Go.Proofs.Lays2.n21 Tryz.prog Tryz.insL_ren := {
 mixed := by kernel_rfl
 f21 := Tryz.func343.trans (congrArg some (by kernel_rfl))
 f27 := Tryz.func373.trans (congrArg some (by kernel_rfl))
 f28 := Tryz.func374.trans (congrArg some (by kernel_rfl))
 f35 := Tryz.func383.trans (congrArg some (by kernel_rfl))
 f39 := Tryz.func386.trans (congrArg some (by kernel_rfl))
 t0 := Tryz.underlying0
 a0 := Tryz.isAgg0
 z0 := Tryz.sizeOf0
 v0 := Tryz.zeroValue0
 t3 := Tryz.underlying3
 a3 := Tryz.isAgg3
 z3 := Tryz.sizeOf3
 v3 := Tryz.zeroValue3
 t4 := Tryz.underlying4
 a4 := Tryz.isAgg4
 z4 := Tryz.sizeOf4
 v4 := Tryz.zeroValue4
 t22 := Tryz.underlying134
 a22 := Tryz.isAgg134
 z22 := Tryz.sizeOf134
 v22 := Tryz.zeroValue134
 i3 := by kernel_rfl }
end Go.Proofs
namespace Go.Proofs.YtacglpinmpncaaaGreat
variable {listed : Array Bool} {args c : Array Value} {op : BinOp} {Q : Exit → Act → World → Prop} {k : IntKind} {es : List MapEntry} {F done md : List Nat} {ops : List Oper} {cs t vs : List Value} {b sz : Nat} {o : Oper} {a : Option Addr} {r : Option Nat} {P : Program} {A : Prop} {α : Type} {E T e : TypeId} {v z : Value} {w : World} {C : World → Prop}
open _root_.Array renaming getD_eq_getD_getElem? → z1o, getElem?_append_left → z10, getElem?_eq_some_iff → z2y, getElem?_modify → z1y, getElem?_push → z2p, getElem?_replicate → z3b, getElem?_toList → z3a, length_toList → z1z, mapM_eq_mapM_toList → z2x, toArray_toList → z0n
open _root_.Bool renaming and_eq_true → zyy, false_eq_true → z0x, not_eq_true' → zzt, not_false → z2m, not_true → z0c, or_eq_true → z1p
open _root_.Int renaming le_refl → zzk
open _root_.Go.IntKind renaming wrap → zyu
open _root_.List renaming all_cons → z1g, all_eq_true → z0d, append_assoc → zy8, append_nil → zzw, cons_append → zz6, drop_drop → z08, drop_eq_getElem_cons → z1e, drop_eq_nil_of_le → z0u, drop_zero → z09, eq_nil_of_length_eq_zero → z0p, eraseIdx_cons_succ → z3c, ext_getElem? → z1a, find?_eq_none → z2d, find?_some → z2o, flatMap_cons → z2z, flatMap_def → z2r, flatten_cons → zzd, getD_eq_getElem?_getD → z07, getElem?_append_left → zy7, getElem?_append_right → zzn, getElem?_cons_succ → z2c, getElem?_drop → z1d, getElem?_eq_getElem → zy0, getElem?_eq_some_iff → zyz, getElem?_map → zy5, getElem?_take → z0l, getElem?_toArray → z0a, length → zyv, length_append → zzl, length_cons → zzg, length_nil → z0z, mapM_cons → z1x, map_append → zzr, map_cons → zzj, map_drop → z1f, map_map → zz9, map_take → z03, mem_append → zy6, mem_cons → zy3, mem_iff_getElem? → zz4, mem_map → zzu, mem_of_find?_eq_some → z2n, mem_of_getElem? → zy4, mem_of_mem_drop → z1s, mem_of_mem_take → z1r, mem_range → z1c, mem_singleton → z0s, mem_singleton_self → zzx, nodup_append → z01, pairwise_iff_getElem → z1t, perm_append_comm → z1q, range → zzh, replicate → zzi, set_cons_succ → z2a, size_toArray → z00, take_append_drop → z0h, take_nil → z2q, take_of_length_le → z0v, zip_cons_cons → z3d
open _root_.Nat renaming add_assoc → z0t, add_mul → z0j, add_zero → z0y, beq → zyw, ble → zzc, eq_of_beq_eq_true → zy1, le_of_ble_eq_true → zz0, le_refl → zy9, le_succ → z0i, lt_of_lt_of_le → z2b, lt_or_ge → z0o, mul_le_mul_right → z0k, succ_mul → zzy, zero_add → zze, zero_le → zzv, zero_mul → z11
open _root_.Option renaming getD_some → zz8, map_eq_some_iff → z0e, map_some → z0g
open _root_.Go.Result renaming andThen_ok → zza
abbrev zaf := Array Obj
def hcell (h : zaf) (a : Addr) : Option Value :=
 match h[a.block]? with
 | some (.cells c _ _) => if a.spot.isSome then none else c[a.off]?
 | _ => none
def zoe (h : zaf) (r : Nat) : Option (TypeId × Nat) :=
 match h[r]? with
 | some (.cells c elem _) => some (elem, c.size)
 | _ => none
def zi3 (h : zaf) (a : Addr) : Bool :=
 match h[a.block]? with
 | some (.cells _ _ (lo, hi)) => lo ≤ a.off && a.off < hi
 | _ => false
def hset (h : zaf) (a : Addr) (v : Value) : zaf :=
 h.modify a.block fun
  | .cells c elem frozen => .cells (if a.spot.isSome then c else c.setIfInBounds a.off v) elem frozen
  | o => o
def zl3 : Obj → Bool
 | .cells .. => true
 | _ => false
def single : Value → Bool
 | .agg _ | .tuple _ => false
 | _ => true
structure Same (w w' : World) : Prop where
 tape : w'.tape = w.tape
 os : w'.os = w.os
 output : w'.output = w.output
 drawn : w.drawn ≤ w'.drawn
theorem Same.refl (w : World) : Same w w := ⟨rfl, rfl, rfl, zy9 _⟩
theorem Same.trans {a b c : World} (h : Same a b) (k : Same b c) : Same a c :=
 ⟨k.tape.trans h.tape, k.os.trans h.os, k.output.trans h.output, Nat.le_trans h.drawn k.drawn⟩
def SWp {α : Type} (P : Program) : Sem α → zaf → (α → zaf → Prop) → Prop
 | .pure a, h, K => K a h
 | .load _ a k, h, K => ∃ v, hcell h a = some v ∧ SWp P (k v) h K
 | .store _ a v k, h, K => single v = true ∧ (∃ u, hcell h a = some u) ∧ zi3 h a = false ∧ SWp P k (hset h a v) K
 | .new o k, h, K => SWp P (k h.size) (h.push o) K
 | .shape r k, h, K => SWp P (k (zoe h r)) h K
 | .freeze .., _, _ => False
 | .frozen a k, h, K => SWp P (k (zi3 h a)) h K
 | .getObj r k, h, K => ∃ o, h[r]? = some o ∧ zl3 o = false ∧ SWp P (k o) h K
 | .setObj r o k, h, K => (∃ u, h[r]? = some u ∧ zl3 u = false) ∧ SWp P k (h.setIfInBounds r o) K
 | .choose q k, h, K => (q.forced = true → SWp P (k 0) h K) ∧ (q.forced = false → ∀ t, SWp P (k (q.cut t)) h K)
 | .sys .., _, _ => False
 | .program k, h, K => SWp P (k P) h K
 | .mark _ k, h, K => SWp P k h K
 | .halt _, _, _ => False
theorem SWp.sound {s : Sem α} : ∀ {h : zaf} {K : α → zaf → Prop}, SWp P s h K → ∀ w : World, w.heap = h →
 ∃ a w', s.run P w = .ok a w' ∧ K a w'.heap ∧ Same w w' := by
 induction s with
 | pure a => intro h K hs w hw; exact ⟨a, w, rfl, hw ▸ hs, .refl w⟩
 | load m a k ih =>
   intro h K hs w hw
   obtain ⟨v, hv, hk⟩ := hs
   subst hw
   have hv' : w.cell? a = some v := hv
   simp only [Sem.run, hv']
   exact ih v hk w rfl
 | store m a v k ih =>
   intro h K hs w hw
   obtain ⟨h1, ⟨u, hu⟩, hf, hk⟩ := hs
   subst hw
   have hu' : w.cell? a = some u := hu
   have hf' : w.frozen? a = false := hf
   obtain ⟨x, w', hr, hK, hS⟩ := ih hk (w.setCell a v) rfl
   refine ⟨x, w', ?_, hK, ⟨hS.tape, hS.os, hS.output, hS.drawn⟩⟩
   rw [← hr]
   cases v <;> simp [single] at h1 <;> simp [Sem.run, hu', hf']
 | new o k ih =>
   intro h K hs w hw
   subst hw
   obtain ⟨x, w', hr, hK, hS⟩ := ih w.heap.size hs { w with heap := w.heap.push o } rfl
   exact ⟨x, w', hr, hK, ⟨hS.tape, hS.os, hS.output, hS.drawn⟩⟩
 | shape r k ih =>
   intro h K hs w hw
   subst hw
   exact ih (w.shape? r) hs w rfl
 | freeze a n k ih => intro h K hs; exact hs.elim
 | frozen a k ih =>
   intro h K hs w hw
   subst hw
   exact ih (w.frozen? a) hs w rfl
 | getObj r k ih =>
   intro h K hs w hw
   subst hw
   obtain ⟨o, ho, hc, hk⟩ := hs
   obtain ⟨x, w', hr, hK, hS⟩ := ih o hk w rfl
   refine ⟨x, w', ?_, hK, hS⟩
   rw [← hr]
   cases o <;> simp [zl3] at hc <;> simp [Sem.run, ho]
 | setObj r o k ih =>
   intro h K hs w hw
   subst hw
   obtain ⟨⟨u, hu, hc⟩, hk⟩ := hs
   obtain ⟨x, w', hr, hK, hS⟩ := ih hk { w with heap := w.heap.setIfInBounds r o } rfl
   refine ⟨x, w', ?_, hK, ⟨hS.tape, hS.os, hS.output, hS.drawn⟩⟩
   rw [← hr]
   cases u <;> simp [zl3] at hc <;> simp [Sem.run, hu]
 | choose q k ih =>
   intro h K hs w hw
   subst hw
   by_cases hq : q.forced = true
   · obtain ⟨x, w', hr, hK, hS⟩ := ih 0 (hs.1 hq) w rfl
     exact ⟨x, w', by simp only [Sem.run, hq, if_true]; exact hr, hK, hS⟩
   · have hq' : q.forced = false := by simpa using hq
     obtain ⟨x, w', hr, hK, hS⟩ := ih (q.cut (w.tape w.drawn q)) (hs.2 hq' _) { w with drawn := w.drawn + 1 } rfl
     exact ⟨x, w', by simp only [Sem.run, hq', z0x, if_false]; exact hr, hK, ⟨hS.tape, hS.os, hS.output, Nat.le_trans (z0i _) hS.drawn⟩⟩
 | sys c k ih => intro h K hs; exact hs.elim
 | program k ih => intro h K hs w hw; exact ih P hs w hw
 | mark m k ih => intro h K hs w hw; exact ih hs w hw
 | halt x => intro h K hs; exact hs.elim
theorem SWp.mono {s : Sem α} : ∀ {h : zaf} {K K' : α → zaf → Prop}, (∀ a h', K a h' → K' a h') → SWp P s h K → SWp P s h K' := by
 induction s with
 | pure a => intro h K K' hk hs; exact hk _ _ hs
 | load m a k ih => intro h K K' hk hs; obtain ⟨v, hv, h2⟩ := hs; exact ⟨v, hv, ih v hk h2⟩
 | store m a v k ih => intro h K K' hk hs; exact ⟨hs.1, hs.2.1, hs.2.2.1, ih hk hs.2.2.2⟩
 | new o k ih => intro h K K' hk hs; exact ih _ hk hs
 | shape r k ih => intro h K K' hk hs; exact ih _ hk hs
 | freeze a n k ih => intro h K K' hk hs; exact hs
 | frozen a k ih => intro h K K' hk hs; exact ih _ hk hs
 | getObj r k ih => intro h K K' hk hs; obtain ⟨o, ho, hc, h2⟩ := hs; exact ⟨o, ho, hc, ih o hk h2⟩
 | setObj r o k ih => intro h K K' hk hs; exact ⟨hs.1, ih hk hs.2⟩
 | choose q k ih => intro h K K' hk hs; exact ⟨fun hq => ih 0 hk (hs.1 hq), fun hq t => ih _ hk (hs.2 hq t)⟩
 | sys c k ih => intro h K K' hk hs; exact hs
 | program k ih => intro h K K' hk hs; exact ih P hk hs
 | mark m k ih => intro h K K' hk hs; exact ih hk hs
 | halt x => intro h K K' hk hs; exact hs
theorem SWp.bind {β : Type} {s : Sem α} {f : α → Sem β} : ∀ {h : zaf} {K : β → zaf → Prop},
 SWp P s h (fun a h' => SWp P (f a) h' K) → SWp P (s >>= f) h K := by
 show ∀ {h : zaf} {K : β → zaf → Prop}, SWp P s h (fun a h' => SWp P (f a) h' K) → SWp P (s.bind f) h K
 induction s with
 | pure a => intro h K hs; exact hs
 | load m a k ih => intro h K hs; obtain ⟨v, hv, h2⟩ := hs; exact ⟨v, hv, ih v h2⟩
 | store m a v k ih => intro h K hs; exact ⟨hs.1, hs.2.1, hs.2.2.1, ih hs.2.2.2⟩
 | new o k ih => intro h K hs; exact ih _ hs
 | shape r k ih => intro h K hs; exact ih _ hs
 | freeze a n k ih => intro h K hs; exact hs
 | frozen a k ih => intro h K hs; exact ih _ hs
 | getObj r k ih => intro h K hs; obtain ⟨o, ho, hc, h2⟩ := hs; exact ⟨o, ho, hc, ih o h2⟩
 | setObj r o k ih => intro h K hs; exact ⟨hs.1, ih hs.2⟩
 | choose q k ih => intro h K hs; exact ⟨fun hq => ih 0 (hs.1 hq), fun hq t => ih _ (hs.2 hq t)⟩
 | sys c k ih => intro h K hs; exact hs
 | program k ih => intro h K hs; exact ih P hs
 | mark m k ih => intro h K hs; exact ih hs
 | halt x => intro h K hs; exact hs
def zbh (P : Program) (f : FuncId) : Prop := ∃ fn, P.funcs[f]? = some fn ∧ (fn.name == "runtime.NumGoroutine") = false ∧ fn.body.isNone = false
def Run (P : Program) (f : FuncId) (args : List Value) (h : zaf) (R : Value → zaf → Prop) : Prop :=
 zbh P f ∧ ∀ w : World, w.heap = h → Calls P f args.toArray w fun e w' => ∃ v, e = .returned v ∧ R v w'.heap ∧ Same w w'
variable {h : zaf} {K : Value → zaf → Prop}
theorem Run.mono {f : FuncId} {args : List Value} {R R' : Value → zaf → Prop} (hr : Run P f args h R)
 (hi : ∀ v h', R v h' → R' v h') : Run P f args h R' :=
 ⟨hr.1, fun w hw => (hr.2 w hw).mono fun _ _ ⟨v, he, hR, hS⟩ => ⟨v, he, hi _ _ hR, hS⟩⟩
theorem zd7 {f : FuncId} (hc : zbh P f) (args : Array Value) (w : World) :
 (callFunc f args).run P w = .ok (.enter f args) w := by
 obtain ⟨fn, hf, hn, hb⟩ := hc
 unfold callFunc
 show Sem.run P (Sem.bind program _) w = _
 simp only [program, Sem.bind, Sem.run, hf]
 rw [if_neg (by rw [hn]; simp), if_neg (by rw [hb]; simp)]
 rfl
def ze5 : List Value → Nat → Value
 | [], _ => undef
 | v :: _, 0 => v
 | _ :: l, n + 1 => ze5 l n
def zj0 : List Value → Nat → Value → List Value
 | [], _, _ => []
 | _ :: l, 0, v => v :: l
 | x :: l, n + 1, v => x :: zj0 l n v
def lput (t : List Value) (d : Option Tmp) (v : Value) : List Value :=
 match d with
 | some i => zj0 t i v
 | none => t
def ev (t : List Value) : Operand → Value
 | .tmp i => ze5 t i
 | .const v => v
 | .global g => .pointer (some ⟨g, 0, none⟩)
 | .func f => .func (.func f) #[] #[]
inductive Sh where
 | i (k : IntKind) | b | s | p | sl | m | v
def shOf : Value → Sh
 | .int k _ => .i k
 | .bool _ => .b
 | .string _ => .s
 | .pointer _ => .p
 | .slice .. => .sl
 | .map _ => .m
 | _ => .v
def Sh.Ex (x : Sh) (f : Value → Prop) : Prop :=
 match x with
 | .i k => ∃ n : Int, f (.int k n)
 | .b => ∃ c : Bool, f (.bool c)
 | .s => ∃ s : ByteArray, f (.string s)
 | .p => ∃ a : Option Addr, f (.pointer a)
 | .sl => ∃ (a : Option Addr) (n c : Nat), f (.slice a n c)
 | .m => ∃ r : Option Nat, f (.map r)
 | .v => ∃ v : Value, f v
def exL : List Value → (List Value → Prop) → Prop
 | [], f => f []
 | z :: l, f => (shOf z).Ex fun v => exL l fun vs => f (v :: vs)
def exE (z : Value) (f : Value → Prop) : Prop :=
 match z with
 | .agg cs => exL cs.toList fun vs => f (.agg vs.toArray)
 | z => (shOf z).Ex f
def exT : List Value → (List Value → Prop) → Prop
 | [], f => f []
 | z :: l, f => exE z fun v => exT l fun vs => f (v :: vs)
def exZ (z : Value) (f : Value → Prop) : Prop :=
 match z with
 | .tuple cs => exT cs.toList fun vs => f (.tuple vs.toArray)
 | z => exE z f
def zgj (a : Option Addr) (K : Nat → Nat → Prop) : Prop :=
 match a with
 | some ⟨b, o, none⟩ => K b o
 | _ => False
def addO (o n : Nat) : Nat := cond (zyw n 0) o (o + n)
inductive Lay where
 | one (z : Value)
 | many (cs : List Value)
def zc9 (P : Program) (t : TypeId) : Option Lay :=
 match P.underlying t, P.info? t with
 | some (.struct _), some i | some (.array ..), some i =>
   match i.zero with
   | some (.agg cs) => if cs.size = i.size then some (.many cs.toList) else none
   | _ => none
 | some _, some i =>
   match i.zero with
   | some z => if single z = true ∧ i.size = 1 then some (.one z) else none
   | none => none
 | _, _ => none
def loadS (h : zaf) (b o : Nat) : List Value → Nat → (List Value → Prop) → Prop
 | [], _, K => K []
 | z :: l, i, K => (shOf z).Ex fun v => hcell h ⟨b, addO o i, none⟩ = some v ∧ loadS h b o l (i + 1) fun vs => K (v :: vs)
def zw5 (P : Program) (t : TypeId) (a : Option Addr) (h : zaf) (K : Value → Prop) : Prop :=
 match zc9 P t with
 | some (.one z) => zgj a fun b o => (shOf z).Ex fun v => hcell h ⟨b, o, none⟩ = some v ∧ K v
 | some (.many cs) => zgj a fun b o => loadS h b o cs 0 fun vs => K (.agg vs.toArray)
 | none => False
def stK (h : zaf) (a : Addr) (v : Value) (K : zaf → Prop) : Prop :=
 single v = true ∧ (∃ u, hcell h a = some u) ∧ zi3 h a = false ∧ K (hset h a v)
def zr2 (h : zaf) (o : Obj) (K : Nat → zaf → Prop) : Prop := K h.size (h.push o)
def zd5 (b o : Nat) : List Value → Nat → zaf → (zaf → Prop) → Prop
 | [], _, h, K => K h
 | v :: l, i, h, K => stK h ⟨b, addO o i, none⟩ v fun h' => zd5 b o l (i + 1) h' K
def zfm (P : Program) (t : TypeId) (a : Option Addr) (x : Value) (h : zaf) (K : zaf → Prop) : Prop :=
 match zc9 P t, x with
 | some (.one _), x => zgj a fun b o => stK h ⟨b, o, none⟩ x K
 | some (.many cs), .agg vs => zgj a fun b o => cond (zyw cs.length vs.toList.length) (zd5 b o vs.toList 0 h K) False
 | _, _ => False
def XWp {α : Type} (P : Program) : Sem α → (α → Prop) → Prop
 | .pure a, K => K a
 | .program k, K => XWp P (k P) K
 | .mark _ k, K => XWp P k K
 | _, _ => False
def zax : IntKind → Nat
 | .i8 => 0 | .i16 => 1 | .i32 => 2 | .i64 => 3 | .u8 => 4 | .u16 => 5 | .u32 => 6 | .u64 => 7
def eqV : Value → Value → Option Bool
 | .int k a, .int k' b => cond (zyw (zax k) (zax k')) (some (a == b)) none
 | .bool a, .bool b => some (a == b)
 | .string a, .string b => some (a.toList == b.toList)
 | _, _ => none
def eqL : List Value → List Value → Option Bool
 | [], [] => some true
 | x :: xs, y :: ys =>
   match eqV x y, eqL xs ys with
   | some a, some b => some (a && b)
   | _, _ => none
 | _, _ => none
def flat (P : Program) : List Field → Nat → Bool
 | [], _ => true
 | f :: l, i => (f.offset == i) && (f.name != "_") && (match P.underlying f.type with | some .bool | some (.int _) | some .string => true | _ => false) && flat P l (i + 1)
def fits (P : Program) : List Field → List Value → Bool
 | [], [] => true
 | f :: fs, v :: vs => (match P.underlying f.type, v with | some .bool, .bool _ => true | some (.int _), .int _ _ => true | some .string, .string _ => true | _, _ => false) && fits P fs vs
 | _, _ => false
def intK (op : BinOp) (k : IntKind) (x y : Int) (K : Value → Prop) : Prop :=
 match op with
 | .add => K (.int k (k.wrap (x + y)))
 | .sub => K (.int k (k.wrap (x - y)))
 | .mul => K (.int k (k.wrap (x * y)))
 | .quo => y ≠ 0 ∧ K (.int k (k.wrap (x.tdiv y)))
 | .rem => y ≠ 0 ∧ K (.int k (x.tmod y))
 | .eql => K (.bool (x == y))
 | .neq => K (.bool (x != y))
 | .lss => K (.bool (x < y))
 | .leq => K (.bool (x ≤ y))
 | .gtr => K (.bool (x > y))
 | .geq => K (.bool (x ≥ y))
 | .and => K (.int k (k.wrap (BitVec.ofInt k.bits x &&& BitVec.ofInt k.bits y).toNat))
 | .or => K (.int k (k.wrap (BitVec.ofInt k.bits x ||| BitVec.ofInt k.bits y).toNat))
 | .xor => K (.int k (k.wrap (BitVec.ofInt k.bits x ^^^ BitVec.ofInt k.bits y).toNat))
 | .andNot => K (.int k (k.wrap (BitVec.ofInt k.bits x &&& ~~~BitVec.ofInt k.bits y).toNat))
 | .shl => 0 ≤ y ∧ K (.int k (k.wrap (x * 2 ^ (min y.toNat k.bits))))
 | .shr => 0 ≤ y ∧ K (.int k (x.fdiv (2 ^ (min y.toNat k.bits))))
def zeb (op : BinOp) (z : Bool) (K : Value → Prop) : Prop :=
 match op with
 | .eql => K (.bool z)
 | .neq => K (.bool !z)
 | _ => False
def strK (op : BinOp) (x y : ByteArray) (K : Value → Prop) : Prop :=
 match op with
 | .add => x.size + y.size < 9223372036854775808 ∧ K (.string (x ++ y))
 | .eql => K (.bool (x.toList == y.toList))
 | .neq => K (.bool !(x.toList == y.toList))
 | .lss => K (.bool (Op.bytesLess x.toList y.toList))
 | .leq => K (.bool (Op.bytesLess x.toList y.toList || x.toList == y.toList))
 | .gtr => K (.bool !(Op.bytesLess x.toList y.toList || x.toList == y.toList))
 | .geq => K (.bool !(Op.bytesLess x.toList y.toList))
 | _ => False
def zxc (k k' : IntKind) (A : Prop) : Prop := cond (zyw (zax k) (zax k')) A False
def zue (P : Program) (op : BinOp) (T : TypeId) (x y : Value) (K : Value → Prop) : Prop :=
 match x, y with
 | .int k a, .int k' b =>
   match op with
   | .shl => 0 ≤ b ∧ K (.int k (k.wrap (a * 2 ^ (min b.toNat k.bits))))
   | .shr => 0 ≤ b ∧ K (.int k (a.fdiv (2 ^ (min b.toNat k.bits))))
   | op => zxc k k' (intK op k a b K)
 | .string a, .string b => strK op a b K
 | .bool a, .bool b => match P.underlying T with | some .bool => zeb op (a == b) K | _ => False
 | .pointer a, .pointer none => match P.underlying T with | some (.pointer _) => zeb op a.isNone K | _ => False
 | .slice a _ _, .slice none _ _ => match P.underlying T with | some (.slice _) => zeb op a.isNone K | _ => False
 | .map a, .map none => match P.underlying T with | some (.map ..) => zeb op a.isNone K | _ => False
 | .agg xs, .agg ys =>
   match P.underlying T with
   | some (.struct fs) => cond (flat P fs.toList 0 && !P.stoodInHeld T && !P.eqGuardType P.depth T)
    (cond (fits P fs.toList xs.toList && zyw xs.toList.length fs.toList.length && zyw ys.toList.length fs.toList.length)
     (match eqL xs.toList ys.toList with | some c => zeb op c K | none => False) False) False
   | _ => False
 | _, _ => False
def pickK (c a b : Value) (K : Value → Prop) : Prop :=
 match c, a, b with
 | .bool c, .bool x, .bool y => K (.bool (cond c x y))
 | .bool c, a, b => cond c (K a) (K b)
 | _, _, _ => False
def zao (P : Program) (t : TypeId) : Nat := ((P.info? t).map (·.size)).getD 0
def zhb (a b : Nat) : Nat := cond (zyw b 0) a (a - b)
def slA (a : Option Addr) (c l s : Nat) : Option Addr := cond (zyw l 0) a (if c = l then a else a.map fun x => ⟨x.block, x.off + l * s, none⟩)
def leK (c : Bool) (l r : Int) (K : Prop) : Prop := cond c K (l ≤ r ∧ K)
def nz (n : Nat) (A : Prop) : Prop := cond (zyw n 0) False A
def zar : List Value → Nat → List Value → List Value
 | l, _, [] => l
 | [], _, _ => []
 | _ :: l, 0, v :: vs => v :: zar l 0 vs
 | x :: l, n + 1, v :: vs => x :: zar l n (v :: vs)
def zi8 (place : Nat → Option (Nat × Nat)) : List Value → List (Nat × Value) → Option (List Value)
 | l, [] => some l
 | l, (i, v) :: rest =>
   match place i with
   | none => none
   | some (o, s) => cond (zyw v.cells.toList.length s && zzc (o + v.cells.toList.length) l.length) (zi8 place (zar l o v.cells.toList) rest) none
def zih (P : Program) (fs : List Field) (i : Nat) : Option (Nat × Nat) :=
 match fs[i]? with
 | some f => some (f.offset, zao P f.type)
 | none => none
def zji (P : Program) : List Field → Bool
 | [] => true
 | f :: fs => !zyw (zao P f.type) 0 && zji P fs
def zg3 (o : Oper) : Bool :=
 match o.op with
 | .move _ | .assign _ | .pick .. | .nilCheck _ | .binOp .. | .unOp .. | .convert .. | .makeFunc .. | .fieldAddr .. | .field .. | .indexAddr .. | .index .. | .extract .. | .slice .. | .build .. => true
 | .call { callee := .builtin .len, argTypes := _, args := _ } => false
 | .call { callee := .builtin .min, .. } | .call { callee := .builtin .max, .. } => true
 | _ => false
def zrm (o : Oper) : Bool :=
 match o.op with
 | .load .. | .lookup .. => true
 | .call { callee := .builtin .len, .. } => true
 | _ => false
def ztq (K : Value → Prop) : Next → Prop
 | .value v => K v
 | _ => False
def bnd (t : List Value) (x : Option Operand) (d : Int) : Option Int :=
 match x with
 | none => some d
 | some x => match ev t x with | .int _ i => some i | _ => none
def zfa (P : Program) (t : List Value) (o : Oper) (K : Value → Prop) : Prop :=
 match o.op with
 | .move x | .assign x => K (ev t x)
 | .pick c a b => pickK (ev t c) (ev t a) (ev t b) K
 | .nilCheck x =>
   match ev t x with
   | .pointer a => zgj a fun b o => K (.pointer (some ⟨b, o, none⟩))
   | .func (.func f) a b => K (.func (.func f) a b)
   | _ => False
 | .binOp op T x y _ => zue P op T (ev t x) (ev t y) K
 | .fieldAddr s x f =>
   match P.underlying s, ev t x with
   | some (.struct fs), .pointer a =>
     match fs[f]? with
     | some fd => nz (zao P fd.type) (zgj a fun b o => K (.pointer (some ⟨b, addO o fd.offset, none⟩)))
     | none => False
   | _, _ => False
 | .indexAddr T x i =>
   match P.underlying T, ev t x, ev t i with
   | some (.slice e), .slice a n _, .int _ i => zgj a fun b o => 0 ≤ i ∧ i < n ∧ nz (zao P e) (K (.pointer (some ⟨b, o + i.toNat * zao P e, none⟩)))
   | some (.array n e), .pointer a, .int _ i => zgj a fun b o => 0 ≤ i ∧ i < n ∧ nz (zao P e) (K (.pointer (some ⟨b, o + i.toNat * zao P e, none⟩)))
   | _, _, _ => False
 | .index T x i =>
   match P.underlying T, ev t x, ev t i with
   | some .string, .string s, .int _ i => 0 ≤ i ∧ i < s.size ∧ K (.int .u8 (s.data.getD i.toNat 0).toNat)
   | _, _, _ => XWp P (execOp (ev t) o) (ztq K)
 | .build T ps =>
   match P.underlying T, P.info? T with
   | some (.struct fs), some i =>
     match i.zero with
     | some (.agg cs) => cond (zji P fs.toList)
       (match zi8 (zih P fs.toList) cs.toList (ps.toList.map fun p => (p.1, ev t p.2)) with
        | some l => K (.agg l.toArray)
        | none => False) False
     | _ => False
   | _, _ => XWp P (execOp (ev t) o) (ztq K)
 | .slice T x lo hi mx =>
   match P.underlying T, ev t x, mx with
   | some (.slice e), .slice a n c, none =>
     match bnd t lo 0, bnd t hi n with
     | some l, some r => leK lo.isNone 0 l (l ≤ r ∧ r ≤ c ∧ nz (zao P e) (K (.slice (slA a c l.toNat (zao P e)) (zhb r.toNat l.toNat) (zhb c l.toNat))))
     | _, _ => False
   | some .string, .string s, none =>
     match bnd t lo 0, bnd t hi s.size with
     | some l, some r => leK lo.isNone 0 l (l ≤ r ∧ r ≤ s.size ∧ K (.string (s.extract l.toNat r.toNat)))
     | _, _ => False
   | some (.slice e), .slice a n c, some mx =>
     match bnd t lo 0, bnd t hi n, bnd t (some mx) 0 with
     | some l, some r, some m => cond hi.isSome (leK lo.isNone 0 l (l ≤ r ∧ r ≤ m ∧ m ≤ c ∧ nz (zao P e) (K (.slice (slA a m.toNat l.toNat (zao P e)) (zhb r.toNat l.toNat) (zhb m.toNat l.toNat))))) False
     | _, _, _ => False
   | some (.pointer A), .pointer a, none =>
     match P.underlying A with
     | some (.array n e) =>
       match bnd t lo 0, bnd t hi n with
       | some l, some r => zgj a fun b o => leK lo.isNone 0 l (l ≤ r ∧ r ≤ n ∧ nz (zao P e) (K (.slice (slA (some ⟨b, o, none⟩) n l.toNat (zao P e)) (zhb r.toNat l.toNat) (zhb n l.toNat))))
       | _, _ => False
     | _ => False
   | some (.array n e), .pointer a, none =>
     match bnd t lo 0, bnd t hi n with
     | some l, some r => zgj a fun b o => leK lo.isNone 0 l (l ≤ r ∧ r ≤ n ∧ nz (zao P e) (K (.slice (slA (some ⟨b, o, none⟩) n l.toNat (zao P e)) (zhb r.toNat l.toNat) (zhb n l.toNat))))
     | _, _ => False
   | _, _, _ => False
 | _ => XWp P (execOp (ev t) o) (ztq K)
def zus (P : Program) (t : TypeId) : Value := (((P.info? t).bind (·.zero))).getD undef
abbrev Hints := List (Nat × List (Nat × Sh))
structure Hn where
 hs : Hints
 js : Hints
 rs : List (Nat × TypeId)
def rsOf : List (Nat × TypeId) → Operand → TypeId
 | (s, T) :: l, .tmp n => cond (zyw s n) T (rsOf l (.tmp n))
 | _, _ => 0
def CallV (P : Program) (f : Value) (args : List Value) (h : zaf) (R : Value → zaf → Prop) : Prop :=
 match f with
 | .func (.func g) first captured => Run P g (first.toList ++ args ++ captured.toList) h R
 | _ => False
def zlt (P : Program) (K : Value → zaf → Prop) : Next → zaf → Prop
 | .value v, h => K v h
 | .skip, h => K undef h
 | .enter f args, h => Run P f args.toList h K
 | _, _ => False
def zqy (P : Program) (ts : Array TypeId) (T : TypeId) (s x : Value) (h : zaf) (K : Value → zaf → Prop) : Prop := SWp P (Builtin.append_ ts T #[s, x]) h K
def copyK (P : Program) (ts : Array TypeId) (T : TypeId) (s x : Value) (h : zaf) (K : Value → zaf → Prop) : Prop := SWp P (Builtin.copy_ ts T #[s, x]) h K
def delK (P : Program) (ts : Array TypeId) (T : TypeId) (s x : Value) (h : zaf) (K : Value → zaf → Prop) : Prop := SWp P (Builtin.delete_ ts T #[s, x]) h K
def clearK (P : Program) (ts : Array TypeId) (T : TypeId) (x : Value) (h : zaf) (K : Value → zaf → Prop) : Prop := SWp P (Builtin.clear_ ts T #[x]) h K
def updK (P : Program) (T : TypeId) (m k v : Value) (h : zaf) (K : zaf → Prop) : Prop := SWp P (Instr.mapUpdate T m k v) h fun _ h' => K h'
def makeK (P : Program) (T : TypeId) (l c : Value) (h : zaf) (K : Value → zaf → Prop) : Prop := SWp P (Instr.makeSlice T l c) h K
def rangeK (P : Program) (T : TypeId) (x : Value) (h : zaf) (K : Value → zaf → Prop) : Prop := SWp P (Instr.range T x) h K
def nextM (P : Program) (it : Value) (h : zaf) (E : zaf → Prop) (K : Value → Value → zaf → Prop) : Prop :=
 SWp P (Instr.next it false 0) h fun v h' => (v = .tuple #[.bool false] ∧ E h') ∨ ∃ k x : Value, v = .tuple #[.bool true, k, x] ∧ K k x h'
def nextS (P : Program) (it : Value) (h : zaf) (E : zaf → Prop) (K : Int → Int → zaf → Prop) : Prop :=
 SWp P (Instr.next it true 0) h fun v h' => (v = .tuple #[.bool false] ∧ E h') ∨ ∃ i c : Int, v = .tuple #[.bool true, .int .i64 i, .int .i32 c] ∧ K i c h'
def entryM (P : Program) (it : Value) (h : zaf) (K : Value → zaf → Prop) : Prop := SWp P (Instr.entry it) h K
def entryK (P : Program) (T : TypeId) (it : Value) (h : zaf) (K : Value → zaf → Prop) : Prop :=
 match P.underlying T with
 | some (.map k e) => entryM P it h fun v h' => exE (zus P k) fun a => exE (zus P e) fun b => v = .tuple #[a, b] ∧ K (.tuple #[a, b]) h'
 | _ => False
def zw3 (P : Program) (T : TypeId) (m k : Value) (h : zaf) (K : Value → zaf → Prop) : Prop := SWp P (Instr.mapEntry T m k) h K
def entryStK (P : Program) (T : TypeId) (m s v : Value) (h : zaf) (K : zaf → Prop) : Prop := SWp P (Instr.entryStore T m s v) h fun _ h' => K h'
def zta (P : Program) (T : TypeId) (K : Value → zaf → Prop) (v : Value) (h : zaf) : Prop := exZ (zus P T) fun v' => v = v' ∧ K v' h
def zt8 (P : Program) (H : Hn) (t : List Value) (o : Oper) (h : zaf) (K : Value → zaf → Prop) : Prop :=
 match o.op with
 | .store T a x =>
   match ev t a with
   | .pointer a => zfm P T a (ev t x) h (K undef)
   | _ => False
 | .box T x => zr2 h (.cells (ev t x).cells T) fun b h' => K (.pointer (some ⟨b, 0, none⟩)) h'
 | .alloc T => match (P.info? T).bind (·.zero) with
   | some z => zr2 h (.cells z.cells T) fun b h' => K (.pointer (some ⟨b, 0, none⟩)) h'
   | none => False
 | .buildSlice T n ps =>
   match P.underlying T with
   | some (.slice e) =>
     match P.info? e with
     | some i =>
       match i.zero with
       | some z => cond (zzc (n * i.size) 16777216 && !zyw (n * i.size) 0)
         (match zi8 (fun j => some (j * i.size, i.size)) ((zzh (n * i.size)).map fun j => z.cells[j % z.cells.size]!) (ps.toList.map fun p => (p.1, ev t p.2)) with
         | some l => zr2 h (.cells l.toArray e) fun b h' => K (.slice (some ⟨b, 0, none⟩) n n) h'
         | none => False) False
       | none => False
     | none => False
   | _ => False
 | .makeMap _ none => zr2 h (.map #[] 0) fun b h' => K (.map (some b)) h'
 | .mapUpdate T m k v => updK P T (ev t m) (ev t k) (ev t v) h (K undef)
 | .makeSlice T l c => makeK P T (ev t l) (ev t c) h (zta P o.type K)
 | .range T x => rangeK P T (ev t x) h K
 | .mapEntry T m k => zw3 P T (ev t m) (ev t k) h K
 | .entryStore T m s v => entryStK P T (ev t m) (ev t s) (ev t v) h (K undef)
 | .call c =>
   match c.callee with
   | .value f => CallV P (ev t f) (c.args.toList.map (ev t)) h (zta P o.type K)
   | .builtin .append => match c.args.toList with
     | [s, x] => zqy P c.argTypes o.type (ev t s) (ev t x) h (zta P o.type K)
     | _ => False
   | .builtin .copy => match c.args.toList with
     | [s, x] => copyK P c.argTypes o.type (ev t s) (ev t x) h (zta P o.type K)
     | _ => False
   | .builtin .delete => match c.args.toList with
     | [s, x] => delK P c.argTypes o.type (ev t s) (ev t x) h K
     | _ => False
   | .builtin .clear => match c.args.toList with
     | [x] => clearK P c.argTypes o.type (ev t x) h K
     | _ => False
   | _ => SWp P (execOp (ev t) o) h (zlt P K)
 | .next it false => nextM P (ev t it) h (fun h' => K (.tuple #[.bool false]) h') (fun a b h' => K (.tuple #[.bool true, a, b]) h')
 | .next it true => nextS P (ev t it) h (fun h' => K (.tuple #[.bool false]) h') (fun i c h' => K (.tuple #[.bool true, .int .i64 i, .int .i32 c]) h')
 | .entry it => entryK P (rsOf H.rs it) (ev t it) h K
 | .panic _ => False
 | .makeInterface _ _ => False
 | _ => SWp P (execOp (ev t) o) h (zlt P K)
def zi4 (ops : List Oper) (o : Oper) : Option (Option Nat × Bool) :=
 match o.guard with
 | none => none
 | some (j, want) => some ((ops[j]?).bind (·.dst), want)
def zl7 (ops : List Oper) (o : Oper) (t : List Value) (A B : List Value → Prop) : Prop :=
 match zi4 ops o with
 | none => A t
 | some (none, _) => B t
 | some (some d, want) =>
   match ze5 t d with
   | .bool c => cond c (cond want (A (zj0 t d (.bool true))) (B (zj0 t d (.bool true)))) (cond want (B (zj0 t d (.bool false))) (A (zj0 t d (.bool false))))
   | _ => B t
def znp (ops : List Oper) (done : List Nat) (i : Nat) : Bool :=
 !done.contains i && match ops[i]? with
  | some o => o.after.toList.all fun e => !Region.binds .any e || done.contains e.on
  | none => false
def nextQ (ops : List Oper) (done : List Nat) : Option Nat :=
 (zzh ops.length).find? fun i => znp ops done i && (match ops[i]? with | some o => zg3 o || zrm o | none => false)
def zic (ops : List Oper) (done : List Nat) : List Nat := (zzh ops.length).filter (znp ops done)
def conjL : List Nat → (Nat → Prop) → Prop
 | [], _ => False
 | [i], f => f i
 | i :: l, f => f i ∧ conjL l f
def waits (ops : List Oper) : Nat → Nat → Nat → Bool
 | 0, _, _ => false
 | n + 1, i, j =>
   match ops[j]? with
   | some o => o.after.toList.any fun e => Region.binds .any e && (e.on == i || waits ops n i e.on)
   | none => false
def zqs (ops : List Oper) : Nat → List Nat → Bool
 | 0, done => (zzh ops.length).all fun i => done.contains i
 | n + 1, done =>
   match nextQ ops done with
   | some i =>
     match ops[i]? with
     | none => false
     | some o =>
       ((zzh ops.length).all fun j => j == i || done.contains j || match ops[j]? with
        | some oj => oj.after.toList.any (fun e => Region.binds .any e && e.on == i) || o.apart ops.toArray oj
        | none => true) && zqs ops n (i :: done)
   | none => (zic ops done).all fun i => (match ops[i]? with | some o => !(zg3 o || zrm o) | none => false) && zqs ops n (i :: done)
inductive Ex where
 | nrm
 | ext (id : Nat)
 | ret
def zcc : Code → List Nat
 | .region _ ops _ => ops.toList.filterMap (·.dst) ++ ops.toList.filterMap fun o => match o.guard with | some (j, _) => (ops.toList[j]?).bind (·.dst) | none => none
 | .seq x y => zcc x ++ zcc y
 | .cond _ x y => zcc x ++ zcc y
 | .block _ c => zcc c
 | .loop c => zcc c
 | .scope c => zcc c
 | _ => []
def zj9 : List Value → List Nat → List Value → List Value
 | t, i :: is, v :: vs => zj9 (zj0 t i v) is vs
 | t, _, _ => t
def zbq : Code → Nat
 | .region id _ _ => id
 | .seq x _ => zbq x
 | .cond _ x _ => zbq x
 | .block _ c => zbq c
 | .loop c => zbq c
 | .scope c => zbq c
 | _ => 0
def resS (P : Program) : List ResultVar → List Value → zaf → (List Value → Prop) → Prop
 | [], _, _, K => K []
 | .tmp i :: l, t, h, K => resS P l t h fun vs => K (ze5 t i :: vs)
 | .cell i T :: l, t, h, K =>
   match ze5 t i with
   | .pointer a => zw5 P T a h fun v => resS P l t h fun vs => K (v :: vs)
   | _ => False
def one : List Value → Value
 | [v] => v
 | vs => .tuple vs.toArray
section
variable {P : Program}
theorem XWp.sound {s : Sem α} : ∀ {K : α → Prop}, XWp P s K → ∃ a, K a ∧ ∀ w, s.run P w = .ok a w := by
 induction s with
 | pure a => intro K h; exact ⟨a, h, fun _ => rfl⟩
 | program k ih => intro K h; exact ih P h
 | mark m k ih => intro K h; exact ih h
 | _ => intro K h; exact h.elim
theorem za3 {K : Nat → Nat → Prop} (h : zgj a K) : ∃ b o, a = some ⟨b, o, none⟩ ∧ K b o := by
 unfold zgj at h
 split at h
 · exact ⟨_, _, rfl, h⟩
 · exact h.elim
theorem zaa {c : Bool} (h : cond c A False) : c = true ∧ A := by
 cases c
 · exact h.elim
 · exact ⟨rfl, h⟩
theorem zb2 {n : Nat} (h : nz n A) : n ≠ 0 ∧ A := by
 unfold nz at h
 cases hb : zyw n 0 with
 | true => rw [hb] at h; exact h.elim
 | false => rw [hb] at h; exact ⟨fun hn => by subst hn; simp at hb, h⟩
theorem zeu {k' : IntKind} (h : zax k = zax k') : k = k' := by
 cases k <;> cases k' <;> first | rfl | (simp [zax] at h)
theorem ziy {k' : IntKind} (h : zxc k k' A) : k = k' ∧ A := by
 obtain ⟨h1, h2⟩ := zaa h
 exact ⟨zeu (zy1 h1), h2⟩
theorem zd4 (a b : Nat) : zhb a b = a - b := by
 unfold zhb
 cases h : zyw b 0 with
 | true => have := zy1 h; subst this; rfl
 | false => rfl
theorem zrg (a : Option Addr) (c l s : Nat) (hs : s ≠ 0) : slA a c l s = if c = l then a else a.map (·.add (l * s)) := by
 unfold slA
 cases h : zyw l 0 with
 | true =>
   have := zy1 h; subst this
   cases a <;> simp [Addr.add]
 | false =>
   have hl : l ≠ 0 := fun hn => by subst hn; simp at h
   simp only [cond_false]
   split
   · rfl
   · cases a with
     | none => rfl
     | some x =>
       simp only [z0g, Addr.add]
       split
       · rename_i h2
         rcases Nat.mul_eq_zero.1 h2 with h3 | h3
         · exact absurd h3 hl
         · exact absurd h3 hs
       · rfl
theorem zbw {lo : Option Operand} {l : Int} {K : Prop} (hl : bnd t lo 0 = some l) (h : leK lo.isNone 0 l K) : 0 ≤ l ∧ K := by
 cases lo with
 | none => simp [bnd] at hl; subst hl; exact ⟨zzk 0, h⟩
 | some x => exact h
theorem zda (o n : Nat) : addO o n = o + n := by
 unfold addO
 cases h : zyw n 0 with
 | true => have := zy1 h; subst this; rfl
 | false => rfl
theorem zay (b o n : Nat) : (⟨b, o, none⟩ : Addr).add n = ⟨b, o + n, none⟩ := by
 unfold Addr.add
 split
 · rename_i h; subst h; rfl
 · rfl
def YP (P : Program) (t : List Value) (o : Oper) (v : Value) : Prop := ∀ w, (execOp (ev t) o).run P w = .ok (.value v) w
theorem ztp {K : Value → Prop} {n : Next} (h : ztq K n) : ∃ v, n = .value v ∧ K v := by
 cases n <;> simp only [ztq] at h
 exact ⟨_, rfl, h⟩
theorem zlg {K : Value → Prop} (h : XWp P (execOp (ev t) o) (ztq K)) : ∃ v, K v ∧ YP P t o v := by
 obtain ⟨n, hn, hr⟩ := XWp.sound h
 obtain ⟨v, rfl, hv⟩ := ztp hn
 exact ⟨v, hv, hr⟩
theorem int_run {x y : Int} {K : Value → Prop} (T : TypeId) (hop : op ≠ .shl ∧ op ≠ .shr) (h : intK op k x y K) :
 ∃ v, K v ∧ ∀ w, (binOp op T (.int k x) (.int k y)).run P w = .ok v w := by
 cases op <;> simp only [intK] at h <;>
  first
   | exact absurd rfl hop.1
   | exact absurd rfl hop.2
   | (refine ⟨_, h, fun w => ?_⟩; simp [binOp, Op.intArith, Op.intCmp, Op.intBits]; done)
   | (refine ⟨_, h.2, fun w => ?_⟩; simp [binOp, Op.intDiv, h.1]; done)
   | (refine ⟨_, h, fun w => ?_⟩; rfl)
theorem str_run {x y : ByteArray} {K : Value → Prop} (T : TypeId) (h : strK op x y K) :
 ∃ v, K v ∧ ∀ w, (binOp op T (.string x) (.string y)).run P w = .ok v w := by
 cases op <;> simp only [strK] at h <;>
  first
   | exact h.elim
   | (refine ⟨_, h, fun w => ?_⟩; simp [binOp, Op.stringOp]; done)
   | (refine ⟨_, h.2, fun w => ?_⟩; have := h.1; have hm : IntKind.i64.max = 9223372036854775807 := (by rfl); simp only [binOp, Op.stringOp]; rw [if_neg (by rw [hm]; omega)]; rfl)
theorem zbf {x y : Operand} {a b : Value} (ha : ∀ cs, a ≠ .agg cs) (hn : a ≠ .nilIface) (w : World) : (eqGuard op T x y a b).run P w = .ok () w := by
 unfold eqGuard
 cases op <;> first | rfl | (cases a <;> first | rfl | exact absurd rfl (ha _) | exact absurd rfl hn)
theorem zgl {x y : Value} {z : Bool} {K : Value → Prop} (hsh : ∀ w, (Op.equal T x y).run P w = .ok z w)
 (hx : (∃ a, x = .pointer a) ∨ (∃ a n c, x = .slice a n c) ∨ (∃ a, x = .map a) ∨ (∃ a, x = .bool a) ∨ (∃ a, x = .agg a))
 (hy : (∃ a, y = .pointer a) ∨ (∃ a n c, y = .slice a n c) ∨ (∃ a, y = .map a) ∨ (∃ a, y = .bool a) ∨ (∃ a, y = .agg a)) (h : zeb op z K) :
 ∃ v, K v ∧ ∀ w, (binOp op T x y).run P w = .ok v w := by
 cases op <;> simp only [zeb] at h
 case eql =>
  refine ⟨_, h, fun w => ?_⟩
  rcases hx with ⟨a, rfl⟩ | ⟨a, n, c, rfl⟩ | ⟨a, rfl⟩ | ⟨a, rfl⟩ | ⟨a, rfl⟩ <;> rcases hy with ⟨b, rfl⟩ | ⟨b, n', c', rfl⟩ | ⟨b, rfl⟩ | ⟨b, rfl⟩ | ⟨b, rfl⟩ <;> simp [binOp, hsh]
 case neq =>
  refine ⟨_, h, fun w => ?_⟩
  rcases hx with ⟨a, rfl⟩ | ⟨a, n, c, rfl⟩ | ⟨a, rfl⟩ | ⟨a, rfl⟩ | ⟨a, rfl⟩ <;> rcases hy with ⟨b, rfl⟩ | ⟨b, n', c', rfl⟩ | ⟨b, rfl⟩ | ⟨b, rfl⟩ | ⟨b, rfl⟩ <;> simp [binOp, hsh]
theorem zd6 {d : TypeDesc} (h : P.underlying T = some d) (hd : (match d with | .struct _ | .array _ _ => true | _ => false) = false) (w : World) :
 (isAgg T).run P w = .ok false w := by
 simp only [isAgg, Sem.run_bind, run_underlying h, zza]
 cases d <;> simp at hd <;> rfl
theorem zdo (hT : (match P.underlying T with | some .bool | some (.int _) | some .string => true | _ => false) = true) {xs : Array Value} {i : Nat} 
 (hv : xs[i]? = some v) (w : World) : (part T xs i).run P w = .ok v w := by
 have h1 : (isAgg T).run P w = .ok false w := by
  cases hu : P.underlying T with
  | none => simp [hu] at hT
  | some d => exact zd6 hu (by cases d <;> simp [hu] at hT <;> rfl) w
 simp only [part, Sem.run_bind, h1, zza, z0x, if_false, hv]
 rfl
theorem run_eqV {a b : Value} {c : Bool} (d : Nat) (hT : (match P.underlying T with | some .bool | some (.int _) | some .string => true | _ => false) = true)
 (hw : (match P.underlying T, a with | some .bool, .bool _ => true | some (.int _), .int _ _ => true | some .string, .string _ => true | _, _ => false) = true) (h : eqV a b = some c) (w : World) :
 (Op.equalIn (d + 1) T a b).run P w = .ok c w := by
 cases hu : P.underlying T with
 | none => simp [hu] at hT
 | some e =>
   cases a <;> cases b <;> simp only [eqV] at h <;> try cases h
   · cases e <;> simp [hu] at hw
     exact run_equalIn_bool' w d T _ _ hu
   · rename_i k x k' y
     cases e <;> simp [hu] at hw
     cases hk : zyw (zax k) (zax k') with
     | false => rw [hk] at h; cases h
     | true =>
       rw [hk] at h
       obtain rfl := zeu (zy1 hk)
       cases h; exact run_equalIn_int w d T _ _ _ _ hu
   · cases e <;> simp [hu] at hw
     exact run_equalIn_string w d T _ _ hu
theorem zg1 (d : Nat) (w : World) : ∀ (fs : List Field) (i : Nat) (xs ys : Array Value) (l m : List Value) (c : Bool), flat P fs i = true → fits P fs l = true →
 (∀ j v, l[j]? = some v → xs[i + j]? = some v) → (∀ j v, m[j]? = some v → ys[i + j]? = some v) → l.length = fs.length → m.length = fs.length →
 eqL l m = some c → (Op.eqFields (d + 1) xs ys fs).run P w = .ok c w
 | [], i, xs, ys, l, m, c, _, _, _, _, hl, hm, he => by
   cases l with
   | cons a l => simp at hl
   | nil => cases m with
     | cons a l => simp at hm
     | nil => simp only [eqL, Option.some.injEq] at he; subst he; simp [Op.eqFields]
 | f :: fs, i, xs, ys, l, m, c, hf, hk, h1, h2, hl, hm, he => by
   cases l with
   | nil => simp at hl
   | cons a l => cases m with
     | nil => simp at hm
     | cons b m =>
       simp only [flat, zyy, beq_iff_eq, bne_iff_ne] at hf
       simp only [fits, zyy] at hk
       obtain ⟨⟨⟨ho, hn⟩, hT⟩, hr⟩ := hf
       simp only [eqL] at he
       cases hab : eqV a b with
       | none => simp [hab] at he
       | some x => cases hlm : eqL l m with
         | none => simp [hab, hlm] at he
         | some y =>
           simp only [hab, hlm, Option.some.injEq] at he
           have hx := run_eqV (P := P) d hT hk.1 hab w
           have pa := zdo (P := P) hT (h1 0 a rfl) w
           have pb := zdo (P := P) hT (h2 0 b rfl) w
           simp only [z0y] at pa pb
           have ih := zg1 d w fs (i + 1) xs ys l m y hr hk.2 (fun j v hv => by have := h1 (j + 1) v (by simpa using hv); rw [← this]; congr 1; omega)
            (fun j v hv => by have := h2 (j + 1) v (by simpa using hv); rw [← this]; congr 1; omega) (by simpa using hl) (by simpa using hm) hlm
           simp only [Op.eqFields, if_pos hn, Sem.run_bind, ho, pa, pb, hx, zza, Sem.run_ite]
           cases x
           · simp only [z2m, if_true, Sem.run_pure]; subst he; rfl
           · simp only [z0c, z0x, if_false]; subst he; rw [ih]; rfl
theorem zjp {fs : Array Field} {xs ys : Array Value} {c : Bool} (hu : P.underlying T = some (.struct fs)) (hp : P.stoodInHeld T = false) (hf : flat P fs.toList 0 = true)
 (hk : fits P fs.toList xs.toList = true) (hl : xs.size = fs.size) (hm : ys.size = fs.size) (he : eqL xs.toList ys.toList = some c) (w : World) : (Op.equal T (.agg xs) (.agg ys)).run P w = .ok c w := by
 have hfo : P.fieldsOf T = fs := by simp [Program.fieldsOf, hu]
 unfold Op.equal Op.maxDepth
 rw [show (10000 : Nat) = 9998 + 1 + 1 from rfl, run_equalIn_struct w (9998 + 1) T xs ys (by rw [hfo]; exact hu) hp, hfo]
 refine zg1 9998 w fs.toList 0 xs ys xs.toList ys.toList c hf hk ?_ ?_ (by simpa using hl) (by simpa using hm) he
 · intro j v hv; simpa using hv
 · intro j v hv; simpa using hv
theorem zvs (d : Nat) (hu : P.underlying T = some (.pointer e)) (p : Option Addr) (w : World) : (Op.equalIn (d + 1) T (.pointer p) (.pointer none)).run P w = .ok p.isNone w := by
 simp only [Op.equalIn, Sem.run_bind, run_underlying hu, zza]
 cases p <;> rfl
theorem run_eqSl (d : Nat) (hu : P.underlying T = some (.slice e)) (p : Option Addr) (n c n' c' : Nat) (w : World) : (Op.equalIn (d + 1) T (.slice p n c) (.slice none n' c')).run P w = .ok p.isNone w := by
 simp only [Op.equalIn, Sem.run_bind, run_underlying hu, zza]
 cases p <;> rfl
theorem zvu (d : Nat) {k : TypeId} (hu : P.underlying T = some (.map k e)) (p : Option Nat) (w : World) : (Op.equalIn (d + 1) T (.map p) (.map none)).run P w = .ok p.isNone w := by
 simp only [Op.equalIn, Sem.run_bind, run_underlying hu, zza]
 cases p <;> rfl
theorem zjh {x y : Operand} {a b : Value} {K : Value → Prop} (h : zue P op T a b K) :
 ∃ v, K v ∧ ∀ w, (do eqGuard op T x y a b; binOp op T a b : Sem Value).run P w = .ok v w := by
 unfold zue at h
 split at h
 · rename_i k p k' q
   have hg : ∀ w, (eqGuard op T x y (.int k p) (.int k' q)).run P w = .ok () w := zbf (by simp) (by simp)
   split at h
   · obtain ⟨h0, hK⟩ := h
     refine ⟨_, hK, fun w => ?_⟩
     simp only [Sem.run_bind, hg, zza]
     simp [binOp, Op.shift, show ¬ q < 0 by omega]
   · obtain ⟨h0, hK⟩ := h
     refine ⟨_, hK, fun w => ?_⟩
     simp only [Sem.run_bind, hg, zza]
     simp [binOp, Op.shift, show ¬ q < 0 by omega]
   · rename_i n1 n2
     obtain ⟨hk, h2⟩ := ziy h
     · subst hk
       obtain ⟨v, hv, hr⟩ := int_run (P := P) T ⟨n1, n2⟩ h2
       exact ⟨v, hv, fun w => by simp only [Sem.run_bind, hg, zza, hr]⟩
 · obtain ⟨v, hv, hr⟩ := str_run (P := P) T h
   exact ⟨v, hv, fun w => by simp only [Sem.run_bind, zbf (P := P) (a := .string _) (by simp) (by simp), zza, hr]⟩
 · split at h
   · rename_i hu
     obtain ⟨v, hv, hr⟩ := zgl (P := P) (T := T) (fun w => run_equalIn_bool' w 9999 T _ _ hu) (.inr (.inr (.inr (.inl ⟨_, rfl⟩)))) (.inr (.inr (.inr (.inl ⟨_, rfl⟩)))) h
     exact ⟨v, hv, fun w => by simp only [Sem.run_bind, zbf (P := P) (a := .bool _) (by simp) (by simp), zza, hr]⟩
   · exact h.elim
 · rename_i p
   split at h
   · rename_i hu
     obtain ⟨v, hv, hr⟩ := zgl (P := P) (T := T) (x := .pointer p) (y := .pointer none) (fun w => zvs 9999 hu p w) (.inl ⟨_, rfl⟩) (.inl ⟨_, rfl⟩) h
     exact ⟨v, hv, fun w => by simp only [Sem.run_bind, zbf (P := P) (a := .pointer _) (by simp) (by simp), zza, hr]⟩
   · exact h.elim
 · rename_i p n c n' c'
   split at h
   · rename_i hu
     obtain ⟨v, hv, hr⟩ := zgl (P := P) (T := T) (x := .slice p n c) (y := .slice none n' c') (fun w => run_eqSl 9999 hu p n c n' c' w) (.inr (.inl ⟨_, _, _, rfl⟩)) (.inr (.inl ⟨_, _, _, rfl⟩)) h
     exact ⟨v, hv, fun w => by simp only [Sem.run_bind, zbf (P := P) (a := .slice ..) (by simp) (by simp), zza, hr]⟩
   · exact h.elim
 · rename_i p
   split at h
   · rename_i hu
     obtain ⟨v, hv, hr⟩ := zgl (P := P) (T := T) (x := .map p) (y := .map none) (fun w => zvu 9999 hu p w) (.inr (.inr (.inl ⟨_, rfl⟩))) (.inr (.inr (.inl ⟨_, rfl⟩))) h
     exact ⟨v, hv, fun w => by simp only [Sem.run_bind, zbf (P := P) (a := .map _) (by simp) (by simp), zza, hr]⟩
   · exact h.elim
 · rename_i xs ys
   split at h
   · rename_i fs hu
     obtain ⟨hc, h⟩ := zaa h
     · obtain ⟨hc2, h⟩ := zaa h
       simp only [zyy, zzt] at hc hc2
       obtain ⟨⟨hf, hp⟩, hq⟩ := hc
       obtain ⟨⟨hk, hl⟩, hm⟩ := hc2
       have hl : xs.size = fs.size := by simpa using zy1 hl
       have hm : ys.size = fs.size := by simpa using zy1 hm
       split at h
       · rename_i c he
         have hg : ∀ w, (eqGuard op T x y (.agg xs) (.agg ys)).run P w = .ok () w := by
          intro w
          unfold eqGuard
          cases op <;> first | rfl | (simp [hq]; done) | (simp [hq]; rfl)
         obtain ⟨v, hv, hr⟩ := zgl (P := P) (T := T) (x := .agg xs) (y := .agg ys) (zjp hu hp hf hk hl hm he) (.inr (.inr (.inr (.inr ⟨_, rfl⟩)))) (.inr (.inr (.inr (.inr ⟨_, rfl⟩)))) h
         exact ⟨v, hv, fun w => by simp only [Sem.run_bind, hg, zza, hr]⟩
       · exact h.elim
   · exact h.elim
 · exact h.elim
theorem zak {i : TypeInfo} (h : P.info? T = some i) (w : World) : (sizeOf T).run P w = .ok i.size w := by
 simp [sizeOf, run_typeInfo w h]
theorem zbk (h : zao P T ≠ 0) : ∃ i, P.info? T = some i ∧ i.size = zao P T := by
 unfold zao at *
 cases hi : P.info? T with
 | none => simp [hi] at h
 | some i => exact ⟨i, rfl, by simp⟩
theorem zbo {n c o : Nat} {z : Int} (hu : P.underlying T = some (.slice e)) (h0 : 0 ≤ z) (h1 : z < n) (ha : a = some ⟨b, o, none⟩) (hs : zao P e ≠ 0) (w : World) :
 (Instr.indexAt T (.slice a n c) (.int k z)).run P w = .ok (.pointer (some ⟨b, o + z.toNat * zao P e, none⟩)) w := by
 subst ha
 obtain ⟨i, hi, his⟩ := zbk hs
 simp [Instr.indexAt, asIntOf, run_underlying hu, zak hi, his, h0, h1, zay]
theorem za8 {n o : Nat} {z : Int} (hu : P.underlying T = some (.array n e)) (h0 : 0 ≤ z) (h1 : z < n) (ha : a = some ⟨b, o, none⟩) (hs : zao P e ≠ 0) (w : World) :
 (Instr.indexAt T (.pointer a) (.int k z)).run P w = .ok (.pointer (some ⟨b, o + z.toNat * zao P e, none⟩)) w := by
 subst ha
 obtain ⟨i, hi, his⟩ := zbk hs
 simp [Instr.indexAt, asIntOf, Instr.sureAddr, run_underlying hu, zak hi, his, h0, h1, zay]
theorem zbu {i : Int} (hv : v = .int k i) {y : Nat} (h0 : 0 ≤ i) (h1 : i ≤ y) (code : BoundsCode) (w : World) : (Instr.sliceBound v y code).run P w = .ok i.toNat w := by
 subst hv
 simp [Instr.sliceBound, asIntOf, h0, h1]
theorem zeo {lo hi : Option Operand} {n c : Nat} {l r : Int} (sl : Bool) (hl : bnd t lo 0 = some l) (hr : bnd t hi n = some r) (h0 : 0 ≤ l) (h1 : l ≤ r) (h2 : r ≤ c) (w : World) :
 (Instr.sliceBounds sl n c (lo.map (ev t)) (hi.map (ev t)) none).run P w = .ok (l.toNat, r.toNat, c) w := by
 have H : ∀ (x : Option Operand) (d : Int) (i : Int), bnd t x d = some i → (x = none ∧ i = d) ∨ ∃ o k, x = some o ∧ ev t o = .int k i := by
  intro x d i h
  cases x with
  | none => simp [bnd] at h; exact .inl ⟨rfl, h.symm⟩
  | some o =>
    simp only [bnd] at h
    split at h
    · rename_i k z hz; simp at h; subst h; exact .inr ⟨o, k, rfl, hz⟩
    · cases h
 rcases H _ _ _ hl with ⟨rfl, rfl⟩ | ⟨ol, kl, rfl, hel⟩ <;> rcases H _ _ _ hr with ⟨rfl, rfl⟩ | ⟨oh, kh, rfl, heh⟩
 · simp [Instr.sliceBounds]
 · simp [Instr.sliceBounds, zbu (P := P) heh (show 0 ≤ r by omega) h2]
 · simp [Instr.sliceBounds, zbu (P := P) hel h0 (show l ≤ (n : Nat) by omega)]
 · simp [Instr.sliceBounds, zbu (P := P) heh (show 0 ≤ r by omega) h2, zbu (P := P) hel h0 (show l ≤ (r.toNat : Nat) by omega)]
theorem zpu {lo hi : Option Operand} {mx : Operand} {n c : Nat} {l r m : Int} (sl : Bool) (hh : hi.isSome = true) (hl : bnd t lo 0 = some l) (hr : bnd t hi n = some r) (hm : bnd t (some mx) 0 = some m) (h0 : 0 ≤ l) (h1 : l ≤ r) (h2 : r ≤ m) (h3 : m ≤ c) (w : World) :
 (Instr.sliceBounds sl n c (lo.map (ev t)) (hi.map (ev t)) (some (ev t mx))).run P w = .ok (l.toNat, r.toNat, m.toNat) w := by
 have H : ∀ (x : Option Operand) (d : Int) (i : Int), bnd t x d = some i → (x = none ∧ i = d) ∨ ∃ o k, x = some o ∧ ev t o = .int k i := by
  intro x d i h
  cases x with
  | none => simp [bnd] at h; exact .inl ⟨rfl, h.symm⟩
  | some o =>
    simp only [bnd] at h
    split at h
    · rename_i k z hz; simp at h; subst h; exact .inr ⟨o, k, rfl, hz⟩
    · cases h
 obtain ⟨hN, -⟩ | ⟨om, km, hom, hem⟩ := H _ _ _ hm
 · cases hN
 cases hom
 rcases H _ _ _ hl with ⟨rfl, rfl⟩ | ⟨ol, kl, rfl, hel⟩ <;> rcases H _ _ _ hr with ⟨rfl, rfl⟩ | ⟨oh, kh, rfl, heh⟩
 · simp at hh
 · simp [Instr.sliceBounds, zbu (P := P) hem (show 0 ≤ m by omega) h3, zbu (P := P) heh (show 0 ≤ r by omega) (show r ≤ (m.toNat : Nat) by omega)]
 · simp at hh
 · simp [Instr.sliceBounds, zbu (P := P) hem (show 0 ≤ m by omega) h3, zbu (P := P) heh (show 0 ≤ r by omega) (show r ≤ (m.toNat : Nat) by omega), zbu (P := P) hel h0 (show l ≤ (r.toNat : Nat) by omega)]
theorem zbc (l : List Value) (o : Nat) : zar l o [] = l := by cases l <;> cases o <;> rfl
theorem zdm : ∀ (l : List Value) (o : Nat) (v : Value) (vs : List Value), o < l.length → zar l o (v :: vs) = zar (l.set o v) (o + 1) vs
 | [], _, _, _, h => by simp at h
 | x :: l, 0, v, [], _ => by simp [zar, zbc]
 | x :: l, 0, v, u :: vs, _ => by simp [zar]
 | x :: l, o + 1, v, [], h => by
   simp only [zar, z2a]
   rw [zdm l o v [] (by simpa using h)]
   simp [zbc]
 | x :: l, o + 1, v, u :: vs, h => by
   simp only [zar, z2a]
   rw [zdm l o v (u :: vs) (by simpa using h)]
theorem zat : ∀ (l : List Value) (o : Nat) (vs : List Value), (zar l o vs).length = l.length
 | l, o, [] => by rw [zbc]
 | [], o, v :: vs => by simp [zar]
 | x :: l, 0, v :: vs => by simp [zar, zat l 0 vs]
 | x :: l, o + 1, v :: vs => by simp [zar, zat l o (v :: vs)]
theorem zi6 : ∀ (vs : List Value) (l : List Value) (o k : Nat), o + k + vs.length ≤ l.length →
 (vs.zipIdx k).foldl (fun (cs : Array Value) (x : Value × Nat) => cs.setIfInBounds (o + x.2) x.1) l.toArray = (zar l (o + k) vs).toArray
 | [], l, o, k, _ => by simp [zbc]
 | v :: vs, l, o, k, h => by
   simp only [zzg] at h
   rw [List.zipIdx_cons, List.foldl_cons, List.setIfInBounds_toArray, zi6 vs _ o (k + 1) (by simp; omega), zdm _ _ _ _ (by omega)]
   rfl
theorem zf3 {place : Nat → Option (Nat × Nat)} : ∀ {ps : List (Nat × Value)} {l l' : List Value}, zi8 place l ps = some l' → Instr.fill place l.toArray ps = some l'.toArray
 | [], l, l', h => by simp only [zi8, Option.some.injEq] at h; subst h; rfl
 | (i, v) :: ps, l, l', h => by
   simp only [zi8] at h
   cases hp : place i with
   | none => rw [hp] at h; cases h
   | some os =>
     obtain ⟨o, s⟩ := os
     rw [hp] at h
     simp only at h
     cases hc : (zyw v.cells.toList.length s && zzc (o + v.cells.toList.length) l.length) with
     | false => rw [hc] at h; cases h
     | true =>
       rw [hc] at h
       rw [zyy] at hc
       have h1 : v.cells.size = s := by simpa using zy1 hc.1
       have h2 : o + v.cells.toList.length ≤ l.length := zz0 hc.2
       have h3 : o + v.cells.size ≤ l.length := by simpa using h2
       unfold Instr.fill
       rw [hp]
       simp only [h1, ne_eq, not_true_eq_false, decide_false, Bool.false_or]
       rw [if_neg (by simp; omega)]
       have key := zi6 v.cells.toList l o 0 (by simpa using h2)
       rw [← Array.foldl_toList, Array.toList_zipIdx]
       rw [key]
       exact zf3 h
theorem zth (fs : List Field) (h : zji P fs = true) (w : World) :
 (fs.mapM (m := Sem) fun f => do pure (f.offset, ← sizeOf f.type)).run P w = .ok (fs.map fun f => (f.offset, zao P f.type)) w := by
 induction fs with
 | nil => rfl
 | cons f fs ih =>
   simp only [zji, zyy, zzt] at h
   obtain ⟨i, hi, hs⟩ := zbk (P := P) (T := f.type) (fun h0 => by rw [h0] at h; simp at h)
   simp only [z1x, Sem.run_bind, zak hi, zza, Sem.run_pure, ih h.2, hs]
   rfl
theorem zti {K : Value → Prop} (h : zfa P t o K) : ∃ v, K v ∧ YP P t o v := by
 obtain ⟨dst, op, ty, pos, after, guard⟩ := o
 cases op <;> simp only [zfa] at h
 case move x => exact ⟨_, h, fun w => rfl⟩
 case assign x => exact ⟨_, h, fun w => rfl⟩
 case pick c a b =>
  unfold pickK at h
  split at h
  · rename_i c' x y hc ha hb
    refine ⟨_, h, fun w => ?_⟩
    simp only [execOp, hc, ha, hb]
    cases c' <;> rfl
  · rename_i c' hno hc
    cases c'
    · exact ⟨_, h, fun w => by simp [execOp, hno, asBool]⟩
    · exact ⟨_, h, fun w => by simp [execOp, hno, asBool]⟩
  · exact h.elim
 case nilCheck x =>
  split at h
  · rename_i a ha
    obtain ⟨b, o, rfl, hK⟩ := za3 h
    exact ⟨_, hK, fun w => by simp [execOp, ha]⟩
  · rename_i f a b ha
    exact ⟨_, h, fun w => by simp [execOp, ha]⟩
  · exact h.elim
 case binOp op' T x y yt =>
  obtain ⟨v, hv, hr⟩ := zjh (x := x) (y := y) h
  exact ⟨v, hv, fun w => by
   have := hr w
   simp only [execOp]
   rw [Sem.run_bind, this]
   rfl⟩
 case fieldAddr s x f =>
  split at h
  · rename_i fs a hu ha
    split at h
    · rename_i fd hfd
      obtain ⟨hz, h⟩ := zb2 h
      · obtain ⟨b, o, rfl, hK⟩ := za3 h
        obtain ⟨i, hi, his⟩ := zbk hz
        refine ⟨_, hK, fun w => ?_⟩
        simp [execOp, Instr.fieldAt, ha, run_underlying hu, hfd, Instr.sureAddr, fieldPlace, zak hi, his, hz, zay, zda]
    · exact h.elim
  · exact h.elim
 case indexAddr T x i =>
  split at h
  · rename_i e a n c k z hu ha hz
    obtain ⟨b, o, ho, h0, h1, hK⟩ := za3 h
    obtain ⟨hs, hK⟩ := zb2 hK
    exact ⟨_, hK, fun w => by simp [execOp, ha, hz, zbo hu h0 h1 ho hs]⟩
  · rename_i n e a k z hu ha hz
    obtain ⟨b, o, ho, h0, h1, hK⟩ := za3 h
    obtain ⟨hs, hK⟩ := zb2 hK
    exact ⟨_, hK, fun w => by simp [execOp, ha, hz, za8 hu h0 h1 ho hs]⟩
  · exact h.elim
 case index T x i =>
  split at h
  · rename_i s k z hu ha hz
    obtain ⟨h0, h1, hK⟩ := h
    refine ⟨_, hK, fun w => ?_⟩
    have hlt : z.toNat < s.size := by omega
    have hg : s[z.toNat]? = some (s.data.getD z.toNat 0) := by
     rw [getElem?_pos s z.toNat hlt]
     have : s.data.size = s.size := rfl
     simp [Array.getD, this, hlt]
     rfl
    simp [execOp, Instr.index, ha, hz, asIntOf, run_underlying hu, h0, hg]
  · exact zlg h
 case build T ps =>
  split at h
  · rename_i fs i hu hi
    split at h
    · rename_i cs hz
      obtain ⟨hl, h⟩ := zaa h
      split at h
      · rename_i l hf
        refine ⟨_, h, fun w => ?_⟩
        have hzero : (zeroValue T).run P w = .ok (.agg cs) w := by simp [zeroValue, run_typeInfo w hi, hz]
        have hpl : (fs.mapM (m := Sem) fun f => do pure (f.offset, ← sizeOf f.type)).run P w = .ok ((fs.toList.map fun f => (f.offset, zao P f.type)).toArray) w := by
         rw [z2x, Sem.run_map, zth _ hl w]; rfl
        have hfn : (fun i => ((fs.toList.map fun f => (f.offset, zao P f.type)).toArray)[i]?) = zih P fs.toList := by
         funext j
         simp only [zih, z0a, zy5]
         cases fs.toList[j]? <;> rfl
        have hpa : (ps.map fun (x : Nat × Operand) => (x.1, ev t x.2)).toList = ps.toList.map fun p => (p.1, ev t p.2) := by simp
        have hfill := zf3 hf
        simp only [z0n] at hfill
        simp only [execOp, Instr.build, Sem.run_bind, hzero, zza, run_underlying hu, hpl]
        show Result.andThen (Sem.run P (match Instr.fill (fun i => ((fs.toList.map fun f => (f.offset, zao P f.type)).toArray)[i]?) (Value.agg cs).cells (ps.map fun (x : Nat × Operand) => (x.1, ev t x.2)).toList with
         | some cells => pure (Value.agg cells) | _ => stuck "build: no such field, or a part of the wrong size") w) _ = _
        rw [hfn, hpa]
        show Result.andThen (Sem.run P (match Instr.fill (zih P fs.toList) cs (ps.toList.map fun p => (p.1, ev t p.2)) with
         | some cells => pure (Value.agg cells) | _ => stuck "build: no such field, or a part of the wrong size") w) _ = _
        rw [hfill]
        rfl
      · exact h.elim
    · exact h.elim
  · exact zlg h
 case slice T x lo hi mx =>
  split at h
  · rename_i e a n c hu ha
    split at h
    · rename_i l r hl hr
      obtain ⟨h0, h1, h2, hK⟩ := zbw hl h
      obtain ⟨hs, hK⟩ := zb2 hK
      rw [zrg _ _ _ _ hs, zd4, zd4] at hK
      obtain ⟨i, hi', his⟩ := zbk hs
      refine ⟨_, hK, fun w => ?_⟩
      have hb := zeo (P := P) (t := t) (n := n) (c := c) true hl hr h0 h1 h2
      simp [execOp, Instr.sliceAt, Instr.slice, ha, run_underlying hu, hb, zak hi', his]
    · exact h.elim
  · rename_i s hu ha
    split at h
    · rename_i l r hl hr
      obtain ⟨h0, h1, h2, hK⟩ := zbw hl h
      refine ⟨_, hK, fun w => ?_⟩
      have hb := zeo (P := P) (t := t) (n := s.size) (c := s.size) false hl hr h0 h1 h2
      simp [execOp, Instr.sliceAt, Instr.slice, ha, run_underlying hu, hb]
    · exact h.elim
  · rename_i e a n c mx hu ha
    split at h
    · rename_i l r m hl hr hm
      obtain ⟨hh, h⟩ := zaa h
      obtain ⟨h0, h1, h2, h3, hK⟩ := zbw hl h
      obtain ⟨hs, hK⟩ := zb2 hK
      rw [zrg _ _ _ _ hs, zd4, zd4] at hK
      obtain ⟨i, hi', his⟩ := zbk hs
      refine ⟨_, hK, fun w => ?_⟩
      have hb := zpu (P := P) (t := t) (n := n) (c := c) true hh hl hr hm h0 h1 h2 h3
      simp [execOp, Instr.sliceAt, Instr.slice, ha, run_underlying hu, hb, zak hi', his]
    · exact h.elim
  · rename_i A a hu ha
    split at h
    · rename_i n e hA
      split at h
      · rename_i l r hl hr
        obtain ⟨b, o, rfl, h⟩ := za3 h
        obtain ⟨h0, h1, h2, hK⟩ := zbw hl h
        obtain ⟨hs, hK⟩ := zb2 hK
        rw [zrg _ _ _ _ hs, zd4, zd4] at hK
        obtain ⟨i, hi', his⟩ := zbk hs
        refine ⟨_, hK, fun w => ?_⟩
        have hb := zeo (P := P) (t := t) (n := n) (c := n) false hl hr h0 h1 h2
        simp [execOp, Instr.sliceAt, Instr.slice, ha, run_underlying hu, run_underlying hA, hb, zak hi', his, asAddr]
        by_cases hc : n = l.toNat <;> simp [hc]
      · exact h.elim
    · exact h.elim
  · rename_i n e a hu ha
    split at h
    · rename_i l r hl hr
      obtain ⟨b, o, rfl, h⟩ := za3 h
      obtain ⟨h0, h1, h2, hK⟩ := zbw hl h
      obtain ⟨hs, hK⟩ := zb2 hK
      rw [zrg _ _ _ _ hs, zd4, zd4] at hK
      obtain ⟨i, hi', his⟩ := zbk hs
      refine ⟨_, hK, fun w => ?_⟩
      have hb := zeo (P := P) (t := t) (n := n) (c := n) false hl hr h0 h1 h2
      simp [execOp, Instr.sliceAt, Instr.sureAddr, ha, run_underlying hu, hb, zak hi', his]
      by_cases hc : n = l.toNat <;> simp [hc]
    · exact h.elim
  · exact h.elim
 all_goals exact zlg h
end
section
variable {P : Program}
theorem Sh.Ex_spec {y : Sh} {f : Value → Prop} (h : y.Ex f) : ∃ v, f v := by
 cases y <;> simp only [Sh.Ex] at h
 case sl => obtain ⟨a, n, c, h⟩ := h; exact ⟨_, h⟩
 all_goals (obtain ⟨x, h⟩ := h; exact ⟨_, h⟩)
theorem zsr : ∀ {l : List Value} {f : List Value → Prop}, exL l f → ∃ vs, f vs
 | [], _, h => ⟨[], h⟩
 | _ :: _, _, h => let ⟨_, h1⟩ := Sh.Ex_spec h; let ⟨_, h2⟩ := zsr h1; ⟨_, h2⟩
theorem zhn {f : Value → Prop} (h : exE z f) : ∃ v, f v := by
 unfold exE at h
 split at h
 · obtain ⟨vs, h⟩ := zsr h; exact ⟨_, h⟩
 · exact Sh.Ex_spec h
theorem zsq : ∀ {l : List Value} {f : List Value → Prop}, exT l f → ∃ vs, f vs
 | [], _, h => ⟨[], h⟩
 | _ :: _, _, h => let ⟨_, h1⟩ := zhn h; let ⟨_, h2⟩ := zsq h1; ⟨_, h2⟩
theorem exZ_spec {f : Value → Prop} (h : exZ z f) : ∃ v, f v := by
 unfold exZ at h
 split at h
 · obtain ⟨vs, h⟩ := zsq h; exact ⟨_, h⟩
 · exact zhn h
theorem zem (hh : zta P T K v h) : K v h := by
 obtain ⟨v', rfl, hK⟩ := exZ_spec hh
 exact hK
theorem zef (h : zc9 P T = some (.one z)) : (∀ w, (isAgg T).run P w = .ok false w) ∧ single z = true ∧ ∃ i, P.info? T = some i ∧ i.size = 1 := by
 unfold zc9 at h
 split at h
 · split at h <;> (try split at h) <;> simp at h
 · split at h <;> (try split at h) <;> simp at h
 · rename_i d i n1 n2 hu hi
   split at h
   · rename_i z' hz
     split at h
     · rename_i hs
       simp at h; subst h
       exact ⟨fun w => zd6 hu (by cases d <;> first | rfl | exact absurd rfl (n1 _) | exact absurd rfl (n2 _ _)) w, hs.1, i, hi, hs.2⟩
     · cases h
   · cases h
 · cases h
theorem zdg (h : zc9 P T = some (.many cs)) : (∀ w, (isAgg T).run P w = .ok true w) ∧ ∃ i, P.info? T = some i ∧ i.size = cs.length := by
 unfold zc9 at h
 split at h
 · rename_i fs i hu hi
   split at h
   · rename_i cs' hz
     split at h
     · rename_i hs
       simp at h; subst h
       exact ⟨fun w => by simp [isAgg, run_underlying hu], i, hi, by simpa using hs.symm⟩
     · cases h
   · cases h
 · rename_i n e i hu hi
   split at h
   · rename_i cs' hz
     split at h
     · rename_i hs
       simp at h; subst h
       exact ⟨fun w => by simp [isAgg, run_underlying hu], i, hi, by simpa using hs.symm⟩
     · cases h
   · cases h
 · split at h <;> (try split at h) <;> simp at h
 · cases h
theorem zkl {h : zaf} {b o : Nat} : ∀ {l : List Value} {i : Nat} {K : List Value → Prop}, loadS h b o l i K →
 ∃ vs, vs.length = l.length ∧ (∀ j v, vs[j]? = some v → hcell h ⟨b, o + (i + j), none⟩ = some v) ∧ K vs
 | [], i, K, hh => ⟨[], rfl, fun j v hv => by simp at hv, hh⟩
 | z :: l, i, K, hh => by
   obtain ⟨v, hv, h2⟩ := Sh.Ex_spec hh
   obtain ⟨vs, hl, hc, hK⟩ := zkl h2
   refine ⟨v :: vs, by simp [hl], fun j u hu => ?_, hK⟩
   cases j with
   | zero => simp at hu; subst hu; rw [zda] at hv; simpa using hv
   | succ j => have := hc j u (by simpa using hu); rw [show i + (j + 1) = i + 1 + j by omega]; exact this
theorem ztw {K : Value → Prop} (hh : zw5 P T a h K) :
 ∃ b o v, a = some ⟨b, o, none⟩ ∧ K v ∧ ∀ w : World, w.heap = h → (loadVar T ⟨b, o, none⟩).run P w = .ok v w := by
 unfold zw5 at hh
 split at hh
 · rename_i z hl
   obtain ⟨b, o, rfl, h1⟩ := za3 hh
   obtain ⟨v, hv, hK⟩ := Sh.Ex_spec h1
   obtain ⟨ha, -, -⟩ := zef hl
   refine ⟨b, o, v, rfl, hK, fun w hw => ?_⟩
   have hv' : w.cell? ⟨b, o, none⟩ = some v := by subst hw; exact hv
   simp [loadVar, ha, Go.load, Sem.run, hv']
 · rename_i cs hl
   obtain ⟨b, o, rfl, h1⟩ := za3 hh
   obtain ⟨vs, hlen, hc, hK⟩ := zkl h1
   obtain ⟨ha, i, hi, hs⟩ := zdg hl
   refine ⟨b, o, _, rfl, hK, fun w hw => ?_⟩
   have hr : (loadCells ⟨b, o, none⟩ vs.length).run P w = .ok vs.toArray w :=
    run_loadCells_list (P := P) w ⟨b, o, none⟩ vs (fun j v hv => by subst hw; rw [zay]; have := hc j v hv; rw [zze] at this; exact this)
   simp [loadVar, ha, zak hi, hs, ← hlen, hr]
 · exact hh.elim
theorem za7 {b o : Nat} : ∀ {vs : List Value} {i : Nat} {h : zaf} {K : zaf → Prop}, zd5 b o vs i h K → SWp P (storeCells ⟨b, o, none⟩ vs i) h fun _ h' => K h'
 | [], _, _, _, hh => hh
 | v :: vs, i, h, K, hh => by
   obtain ⟨h1, h2, h3, h4⟩ := hh
   unfold storeCells
   refine SWp.bind ?_
   rw [zda] at h2 h3 h4
   exact ⟨h1, by rw [zay]; exact h2, by rw [zay]; exact h3, by rw [zay]; exact za7 h4⟩
theorem zmm {s : Sem α} {K : α → zaf → Prop} {a : α} (_hr : ∀ w, s.run P w = .ok a w) (hx : XWp P s (fun b => b = a)) (hK : K a h) : SWp P s h K := by
 clear _hr
 induction s with
 | pure b => cases hx; exact hK
 | program k ih => exact ih P hx
 | mark m k ih => exact ih hx
 | _ => exact hx.elim
theorem zgw {i : TypeInfo} (h : P.info? T = some i) : XWp P (sizeOf T) (fun b => b = i.size) := by
 show XWp P (Sem.bind (typeInfo T) _) _
 unfold typeInfo
 show XWp P (Sem.bind (Sem.bind program _) _) _
 simp only [program, Sem.bind, XWp, h]
 rfl
theorem znj {o : Nat} {K : zaf → Prop} (hl : zc9 P T = some (.one z)) (hh : stK h ⟨b, o, none⟩ v K) : SWp P (storeVar T ⟨b, o, none⟩ v) h fun _ h' => K h' := by
 obtain ⟨-, -, i, hi, hs⟩ := zef hl
 unfold storeVar
 refine SWp.bind (zmm (a := i.size) (zak hi) (zgw hi) ?_)
 obtain ⟨h1, h2, h3, h4⟩ := hh
 have hc : v.cells = #[v] := by cases v <;> simp [single] at h1 <;> rfl
 rw [hs, hc, if_neg (by simp)]
 refine SWp.bind ?_
 exact za7 (vs := [v]) (i := 0) ⟨h1, by rw [zda]; exact h2, by rw [zda]; exact h3, by rw [zda]; exact h4⟩
theorem zk7 {o : Nat} {vs : Array Value} {K : zaf → Prop} (hl : zc9 P T = some (.many cs)) (hn : cs.length = vs.size) (hh : zd5 b o vs.toList 0 h K) :
 SWp P (storeVar T ⟨b, o, none⟩ (.agg vs)) h fun _ h' => K h' := by
 obtain ⟨-, i, hi, hs⟩ := zdg hl
 unfold storeVar
 refine SWp.bind (zmm (a := i.size) (zak hi) (zgw hi) ?_)
 rw [hs, if_neg (by simp [Value.cells, hn])]
 exact za7 hh
theorem zmh {g : FuncId} (hc : zbh P g) {K : Next → zaf → Prop} (hK : K (.enter g args) h) : SWp P (callFunc g args) h K := by
 obtain ⟨fn, hf, hn, hb⟩ := hc
 unfold callFunc
 show SWp P (Sem.bind program _) h K
 simp only [program, Sem.bind, SWp, hf]
 rw [if_neg (by rw [hn]; simp), if_neg (by rw [hb]; simp)]
 exact hK
theorem zct {H : Hn} (hh : zt8 P H t o h K) : SWp P (execOp (ev t) o) h (zlt P K) := by
 obtain ⟨dst, op, ty, pos, after, guard⟩ := o
 cases op <;> simp only [zt8] at hh
 case store T a x =>
  split at hh
  · rename_i ad ha
    simp only [execOp]
    refine SWp.bind ?_
    simp only [Instr.storeAt]
    refine SWp.bind ?_
    rw [ha]
    unfold zfm at hh
    split at hh
    · rename_i z x' hl
      obtain ⟨b, o, rfl, h1⟩ := za3 hh
      exact znj hl h1
    · rename_i cs vs hl hx
      obtain ⟨b, o, rfl, h1⟩ := za3 hh
      obtain ⟨h1, h2⟩ := zaa h1
      rw [hx]
      exact zk7 hl (by simpa using zy1 h1) h2
    · exact hh.elim
  · exact hh.elim
 case box T x => exact hh
 case alloc T =>
  split at hh
  · rename_i z hz
    cases hi : P.info? T with
    | none => simp [hi] at hz
    | some i =>
      simp [hi] at hz
      simp only [execOp, Instr.alloc]
      refine SWp.bind (SWp.bind ?_)
      unfold zeroValue typeInfo
      refine SWp.bind (SWp.bind ?_)
      show SWp P (match P.info? T with | some i => pure i | none => stuck "no such type") h _
      rw [hi]
      show SWp P (match i.zero with | some v => pure v | none => unsupported (.resourceLimit "a value of more than 2^22 cells")) h _
      rw [hz]
      exact hh
  · exact hh.elim
 case buildSlice T n ps =>
  split at hh
  · rename_i e hu
    split at hh
    · rename_i i hi
      split at hh
      · rename_i z hz
        obtain ⟨hc, hh⟩ := zaa hh
        rw [zyy, zzt] at hc
        split at hh
        · rename_i cells hf
          have h1 : ¬ n * i.size > 2 ^ 24 := by have := zz0 hc.1; omega
          have h2 : n * i.size ≠ 0 := fun h0 => by rw [h0] at hc; simp at hc
          simp only [execOp, Instr.buildSlice]
          refine SWp.bind (SWp.bind ?_)
          unfold underlying
          refine SWp.bind ?_
          show SWp P (match P.underlying T with | some d => pure d | none => stuck "no such type") h _
          rw [hu]
          show SWp P (sizeOf e >>= _) h _
          refine SWp.bind (zmm (a := i.size) (zak hi) (zgw hi) ?_)
          rw [if_neg h1]
          rw [if_neg h2]
          refine SWp.bind (SWp.bind ?_)
          unfold typeInfo
          refine SWp.bind ?_
          show SWp P (match P.info? e with | some i => pure i | none => stuck "no such type") h _
          rw [hi]
          show SWp P (match i.zero with | some v => pure v | none => unsupported (.resourceLimit "a value of more than 2^22 cells")) h _
          rw [hz]
          refine SWp.bind ?_
          have hpa : (ps.map fun (x : Nat × Operand) => (x.1, ev t x.2)).toList = ps.toList.map fun p => (p.1, ev t p.2) := by simp
          have hra : (Array.range (n * i.size)).map (fun j => z.cells[j % z.cells.size]!) = ((zzh (n * i.size)).map fun j => z.cells[j % z.cells.size]!).toArray := by
           apply Array.ext'; simp
          have hfill := zf3 hf
          show SWp P (match Instr.fill (fun j => some (j * i.size, i.size)) ((Array.range (n * i.size)).map (z.cells[· % z.cells.size]!)) (ps.map fun (j, x) => (j, ev t x)).toList with
           | some cells => (do let a ← newRow e cells; pure (Value.slice (some a) n n) : Sem Value) | _ => stuck "buildSlice: a part of the wrong size") h _
          rw [hra]
          show SWp P (match Instr.fill (fun j => some (j * i.size, i.size)) ((zzh (n * i.size)).map fun j => z.cells[j % z.cells.size]!).toArray (ps.map fun (x : Nat × Operand) => (x.1, ev t x.2)).toList with
           | some cells => (do let a ← newRow e cells; pure (Value.slice (some a) n n) : Sem Value) | _ => stuck "buildSlice: a part of the wrong size") h _
          rw [hpa, hfill]
          exact hh
        · exact hh.elim
      · exact hh.elim
    · exact hh.elim
  · exact hh.elim
 case makeMap T r =>
  cases r with
  | none => exact hh
  | some x => exact hh
 case mapUpdate T m k v =>
  simp only [execOp]
  exact SWp.bind hh
 case makeSlice T l c =>
  simp only [execOp]
  exact SWp.bind (SWp.mono (fun v h' hv => zem hv) hh)
 case range T x =>
  simp only [execOp]
  exact SWp.bind hh
 case mapEntry T m k =>
  simp only [execOp]
  exact SWp.bind hh
 case entryStore T m s v =>
  simp only [execOp]
  exact SWp.bind hh
 case next it str =>
  cases str
  · simp only [execOp]
    refine SWp.bind (SWp.mono (fun v h' hv => ?_) hh)
    rcases hv with ⟨rfl, hK⟩ | ⟨k, x, rfl, hK⟩
    · exact hK
    · exact hK
  · simp only [execOp]
    refine SWp.bind (SWp.mono (fun v h' hv => ?_) hh)
    rcases hv with ⟨rfl, hK⟩ | ⟨k, x, rfl, hK⟩
    · exact hK
    · exact hK
 case entry it =>
  simp only [execOp]
  unfold entryK at hh
  split at hh
  · refine SWp.bind (SWp.mono (fun v h' hv => ?_) hh)
    obtain ⟨a, ha⟩ := zhn hv
    obtain ⟨b, rfl, hK⟩ := zhn ha
    exact hK
  · exact hh.elim
 case call c =>
  obtain ⟨callee, args, argTypes⟩ := c
  have hargs : args.map (ev t) = (args.toList.map (ev t)).toArray := by apply Array.ext'; rw [Array.toList_map]
  simp only at hh
  split at hh
  · rename_i f
    unfold CallV at hh
    split at hh
    · rename_i g first captured hf
      simp only [execOp, resolve, hf, Deferred.ofValue]
      refine zmh hh.1 ?_
      refine Run.mono (R := zta P ty K) ?_ (fun v h' hv => zem hv)
      have he : (first ++ args.map (ev t) ++ captured).toList = first.toList ++ args.toList.map (ev t) ++ captured.toList := by simp
      rw [he]; exact hh
    · exact hh.elim
  · split at hh
    · rename_i s x hl
      have hm : args.map (ev t) = #[ev t s, ev t x] := by rw [hargs, hl]; rfl
      simp only [execOp, resolve, hm]
      exact SWp.bind (SWp.bind (SWp.mono (fun v h' hv => zem hv) hh))
    · exact hh.elim
  · split at hh
    · rename_i s x hl
      have hm : args.map (ev t) = #[ev t s, ev t x] := by rw [hargs, hl]; rfl
      simp only [execOp, resolve, hm]
      exact SWp.bind (SWp.bind (SWp.mono (fun v h' hv => zem hv) hh))
    · exact hh.elim
  · split at hh
    · rename_i s x hl
      have hm : args.map (ev t) = #[ev t s, ev t x] := by rw [hargs, hl]; rfl
      simp only [execOp, resolve, hm]
      exact SWp.bind (SWp.bind hh)
    · exact hh.elim
  · split at hh
    · rename_i x hl
      have hm : args.map (ev t) = #[ev t x] := by rw [hargs, hl]; rfl
      simp only [execOp, resolve, hm]
      exact SWp.bind (SWp.bind hh)
    · exact hh.elim
  · exact hh
 all_goals exact hh
end
section
variable {P : Program}
theorem zfc : ∀ (l : List Value) (i : Nat), ze5 l i = l.getD i undef
 | [], i => by simp [ze5]
 | v :: l, 0 => by simp [ze5]
 | v :: l, i + 1 => by simp only [ze5, zfc l i]; simp
theorem zw4 : ∀ (l : List Value) (i : Nat) (v : Value), zj0 l i v = l.set i v
 | [], i, v => by simp [zj0]
 | x :: l, 0, v => by simp [zj0]
 | x :: l, i + 1, v => by simp only [zj0, zw4 l i]; simp
theorem zbb (a : Act) : a.eval = ev a.tmps.toList := by
 funext x
 cases x with
 | tmp i => simp only [Act.eval, ev, zfc]; simp [z1o]
 | _ => rfl
theorem zeq (a : Act) (d : Option Tmp) (v : Value) : (a.put d v).tmps.toList = lput a.tmps.toList d v := by
 cases d with
 | none => rfl
 | some i => simp [Act.put, lput, zw4]
theorem zaj (a : Act) (d : Option Tmp) (v : Value) : (a.put d v).defers = a.defers := by cases d <;> rfl
theorem zg7 : ∀ (l : List Value) {i j : Nat} (v : Value), i ≠ j → ze5 (zj0 l i v) j = ze5 l j
 | [], _, _, _, _ => rfl
 | x :: l, 0, 0, v, h => absurd rfl h
 | x :: l, 0, j + 1, v, _ => rfl
 | x :: l, i + 1, 0, v, _ => rfl
 | x :: l, i + 1, j + 1, v, h => zg7 l v (by omega)
theorem ziw : ∀ (l : List Value) (i : Nat) (v : Value), (zj0 l i v).length = l.length
 | [], _, _ => rfl
 | _ :: _, 0, _ => rfl
 | _ :: l, i + 1, v => by simp [zj0, ziw l i v]
theorem zn7 : ∀ (l : List Value) (i : Nat) (c : Bool), ze5 l i = .bool c → zj0 l i (.bool c) = l
 | [], _, _, _ => rfl
 | x :: l, 0, c, h => by simp only [ze5] at h; subst h; rfl
 | x :: l, i + 1, c, h => by simp only [zj0]; rw [zn7 l i c h]
structure Agr (md : List Nat) (t t' : List Value) : Prop where
 len : t'.length = t.length
 same : ∀ i, i ∉ md → ze5 t' i = ze5 t i
theorem Agr.refl (md : List Nat) (t : List Value) : Agr md t t := ⟨rfl, fun _ _ => rfl⟩
theorem Agr.trans {a b c : List Value} (h : Agr md a b) (k : Agr md b c) : Agr md a c :=
 ⟨k.len.trans h.len, fun i hi => (k.same i hi).trans (h.same i hi)⟩
theorem Agr.mono {md' : List Nat} {a b : List Value} (h : Agr md a b) (hm : ∀ i, i ∈ md → i ∈ md') : Agr md' a b :=
 ⟨h.len, fun i hi => h.same i fun hc => hi (hm i hc)⟩
theorem Agr.put {d : Option Tmp} (v : Value) (hd : ∀ i, d = some i → i ∈ md) : Agr md t (lput t d v) := by
 cases d with
 | none => exact .refl _ _
 | some i => exact ⟨ziw _ _ _, fun j hj => zg7 _ _ fun e => hj (e ▸ hd i rfl)⟩
theorem zmo {a : Act} {j : Nat} : yielded ops.toArray a.tmps j = match (ops[j]?).bind (·.dst) with
 | some d => (match ze5 a.tmps.toList d with | .bool c => some c | _ => none)
 | none => none := by
 unfold yielded
 simp only [z0a]
 cases hd : (ops[j]?).bind (·.dst) with
 | none => rfl
 | some d =>
   simp only [Option.bind_some, zfc]
   cases ht : a.tmps[d]? with
   | none => simp [ht, undef]
   | some v =>
     simp only [z07, z3a, ht, zz8]
     cases v <;> rfl
theorem zoh {a : Act} {A B : List Value → Prop} (h : zl7 ops o a.tmps.toList A B) :
 (Region.wanted o (yielded ops.toArray a.tmps) = true ∧ A a.tmps.toList) ∨ (Region.wanted o (yielded ops.toArray a.tmps) = false ∧ B a.tmps.toList) := by
 unfold zl7 zi4 at h
 unfold Region.wanted
 cases hg : o.guard with
 | none => rw [hg] at h; exact .inl ⟨rfl, h⟩
 | some jw =>
   obtain ⟨j, want⟩ := jw
   rw [hg] at h
   simp only [zmo]
   simp only at h
   cases hd : (ops[j]?).bind (·.dst) with
   | none => rw [hd] at h; exact .inr ⟨by simp, h⟩
   | some d =>
     rw [hd] at h
     simp only at h ⊢
     cases hv : ze5 a.tmps.toList d with
     | bool c =>
       rw [hv] at h
       simp only at h ⊢
       cases c <;> cases want <;> simp only [cond_true, cond_false, zn7 _ _ _ hv] at h <;> simp [h]
     | _ => rw [hv] at h; exact .inr ⟨by simp, h⟩
def Closed (ops : List Oper) (listed : Array Bool) : Prop :=
 ∀ j oj, ops[j]? = some oj → listed.getD j false = true → ∀ e ∈ oj.after, Region.binds .any e = true → listed.getD e.on false = true
theorem Closed.set (hc : Closed ops listed) {i : Nat} (hi : i ∈ Region.ready .any ops.toArray listed) : Closed ops (listed.setIfInBounds i true) := by
 intro j oj hj hl e he hb
 obtain ⟨_, oi, hoi, hall⟩ := mem_ready.1 hi
 by_cases hij : i = j
 · subst hij
   have : oj = oi := Option.some.inj (hj.symm.trans (by simpa using hoi))
   subst this
   exact getD_set_true (hall e he hb)
 · rw [getD_set_ne false hij] at hl
   exact getD_set_true (hc j oj hj hl e he hb)
theorem zgy {ops : List Oper} {listed : Array Bool} (hc : Closed ops listed) {i : Nat} : ∀ (n j : Nat) (oj : Oper), ops[j]? = some oj →
 (∀ e ∈ oj.after, Region.binds .any e = true → listed.getD e.on false = true) → waits ops n i j = true → listed.getD i false = true
 | 0, _, _, _, _, h => by simp [waits] at h
 | n + 1, j, oj, hj, hall, h => by
   simp only [waits, hj, List.any_eq_true, zyy, z1p, beq_iff_eq] at h
   obtain ⟨e, he, hb, h1⟩ := h
   have hl := hall e (by simpa using he) hb
   rcases h1 with h1 | h1
   · rw [← h1]; exact hl
   · cases hk : ops[e.on]? with
     | none =>
       cases n with
       | zero => simp [waits] at h1
       | succ n => simp [waits, hk] at h1
     | some ok => exact zgy hc n e.on ok hk (fun e' he' hb' => hc e.on ok hk hl e' he' hb') h1
def YieldC (P : Program) (ops : List Oper) (o : Oper) (v : Value) (C : World → Prop) (a : Act) : Prop :=
 (Region.wanted o (yielded ops.toArray a.tmps) = true ∧ ∀ w, C w → (execOp a.eval o).run P w = .ok (.value v) w) ∨ (Region.wanted o (yielded ops.toArray a.tmps) = false ∧ v = undef)
theorem YieldC.wpOp {i : Nat} {a : Act} (hi : ops[i]? = some o) (hy : YieldC P ops o v C a) {K : Act → World → Prop} (hC : C w)
 (h : K (a.put o.dst v) w) : wpOp P ops.toArray Q i K a w := by
 unfold Go.wpOp
 simp only [z0a, hi]
 rcases hy with ⟨hw, hv⟩ | ⟨hw, rfl⟩
 · simp only [hw, if_true, Oper.wp, hv w hC, Oper.upon]; exact .inl h
 · simp only [hw, z0x, if_false]; exact h
theorem YieldC.of_same {a a' : Act} (hy : YieldC P ops o v C a) (he : execOp a'.eval o = execOp a.eval o)
 (hw : Region.wanted o (yielded ops.toArray a'.tmps) = Region.wanted o (yielded ops.toArray a.tmps)) : YieldC P ops o v C a' := by
 unfold YieldC at *
 rw [he, hw]
 exact hy
theorem zuu {j : Nat} {oi oj : Oper} (hj : ops[j]? = some oj) (hap : oi.apart ops.toArray oj = true)
 (hsi : ∀ cs b, oi.op ≠ .select cs b) (hsj : ∀ cs b, oj.op ≠ .select cs b) (hQ : ∀ c a w, ¬ Q (.panic c) a w) (hQo : ∀ a w, ¬ Q .outgrown a w) {K : Act → World → Prop} {a : Act} 
 (hy : YieldC P ops oi v C a) (h : wpOp P ops.toArray Q j K (a.put oi.dst v) w) :
 wpOp P ops.toArray Q j (fun a' w' => YieldC P ops oi v C a' ∧ K (a'.put oi.dst v) w') a w := by
 obtain ⟨h1, h2, h3⟩ := Oper.apart_spec hap
 have keep : ∀ (a : Act), YieldC P ops oi v C a → ∀ u, YieldC P ops oi v C (a.put oj.dst u) := fun a hy u =>
  hy.of_same (execOp_put oi hsi a oj.dst u h3) (wanted_put oi a oj.dst u h3)
 have keepD : ∀ d, YieldC P ops oi v C { a with defers := d :: a.defers } := fun d => hy.of_same rfl rfl
 unfold Go.wpOp at *
 simp only [z0a, hj] at *
 rw [wanted_put oj a oi.dst v h1] at h
 split
 · rename_i hw
   simp only [hw, if_true] at h
   rcases h with h | ⟨_, a', w', hlets⟩
   case inr => exact absurd hlets (hQo _ _)
   refine .inl ?_
   unfold Oper.wp at *
   rw [execOp_put oj hsj a oi.dst v h1] at h
   generalize (execOp a.eval oj).run P w = r at *
   cases r with
   | ok n w' =>
     cases n <;> simp only [Oper.upon] at h ⊢
     case value u => exact ⟨keep a hy u, by rw [← Act.put_comm a v u h2]; exact h⟩
     case skip => exact ⟨keep a hy _, by rw [← Act.put_comm a v undef h2]; exact h⟩
     case defer d =>
      refine ⟨keep _ (keepD d) _, ?_⟩
      rw [← Act.put_comm _ v undef h2, ← Act.put_defers]
      exact h
     case enter f args =>
      refine Calls.mono h fun e w'' he => ?_
      cases e with
      | returned u => exact ⟨keep a hy u, by rw [← Act.put_comm a v u h2]; exact he⟩
      | panicked c => exact absurd he (hQ _ _ _)
      | outgrown => obtain ⟨a', w', hlets⟩ := he; exact absurd hlets (hQo _ _)
     case row row args => exact Rows.mono h fun u w'' he => ⟨keep a hy u, by rw [← Act.put_comm a v u h2]; exact he⟩
   | halt x w' =>
     cases x <;> simp only [Oper.upon] at h ⊢
     case panic u => exact absurd h (hQ _ _ _)
 · rename_i hw
   simp only [hw] at h
   exact ⟨keep a hy _, by rw [← Act.put_comm a v undef h2]; exact h⟩
end
section
variable {P : Program}
structure Lst (ops : List Oper) (done : List Nat) (listed : Array Bool) : Prop where
 size : listed.size = ops.length
 eq : ∀ k, k < ops.length → listed.getD k true = done.contains k
 bd : ∀ k, done.contains k = true → k < ops.length
theorem Lst.getF (h : Lst ops done listed) {k : Nat} (hk : k < ops.length) : listed.getD k false = done.contains k := by
 have := h.eq k hk
 have hs : k < listed.size := by rw [h.size]; exact hk
 simp [hs] at this ⊢
 exact this
theorem Lst.set (h : Lst ops done listed) (i : Nat) (hi : i < ops.length) : Lst ops (i :: done) (listed.setIfInBounds i true) := by
 refine ⟨by simp [h.size], fun k hk => ?_, fun k hk => ?_⟩
 rotate_left
 · rw [List.contains_cons, z1p, beq_iff_eq] at hk
   rcases hk with rfl | hk
   · exact hi
   · exact h.bd k hk
 have hs : i < listed.size := by rw [h.size]; exact hi
 by_cases hik : i = k
 · subst hik; simp [hs]
 · rw [getD_set_ne true hik, h.eq k hk]
   have : (k == i) = false := by simpa using Ne.symm hik
   simp only [List.contains_cons, this, Bool.false_or]
theorem zgn (h : Lst ops done listed) {i : Nat} :
 i ∈ Region.ready .any ops.toArray listed ↔ znp ops done i = true := by
 rw [mem_ready]
 unfold znp
 simp only [z0a]
 cases ho : ops[i]? with
 | none => simp
 | some o =>
   have hlt : i < ops.length := (zyz.1 ho).1
   rw [h.eq i hlt]
   simp only [Option.some.injEq, exists_eq_left', zyy, zzt, z0d, z1p]
   refine and_congr_right fun _ => ⟨fun hh e he => ?_, fun hh e he hb => ?_⟩
   · cases hb : Region.binds .any e with
     | false => exact .inl rfl
     | true =>
       refine .inr ?_
       have h1 := hh e (by simpa using he) hb
       rcases z0o e.on ops.length with h2 | h2
       · rw [← h.getF h2]; exact h1
       · simp [show listed.size ≤ e.on by rw [h.size]; exact h2] at h1
   · have h1 := (hh e (by simpa using he)).resolve_left (by simp [hb])
     rcases z0o e.on ops.length with h2 | h2
     · rw [h.getF h2]; exact h1
     · exact absurd (h.bd _ h1) (by omega)
theorem zt6 {n : Nat} {p : Nat → Bool} {i : Nat} (h : (zzh n).find? p = some i) : i < n ∧ p i = true :=
 ⟨z1c.1 (z2n h), z2o h⟩
theorem ztr {i : Nat} (h : nextQ ops done = some i) : znp ops done i = true ∧ ∃ o, ops[i]? = some o ∧ (zg3 o || zrm o) = true := by
 have := (zt6 h).2
 simp only [zyy] at this
 refine ⟨this.1, ?_⟩
 cases ho : ops[i]? with
 | none => rw [ho] at this; simp at this
 | some o => rw [ho] at this; exact ⟨o, rfl, this.2⟩
theorem zks : ∀ {l : List Nat} {f : Nat → Prop}, conjL l f → l ≠ [] ∧ ∀ i ∈ l, f i
 | [], _, h => h.elim
 | [i], f, h => ⟨by simp, fun j hj => by simp only [z0s] at hj; subst hj; exact h⟩
 | i :: j :: l, f, h => ⟨by simp, fun k hk => by
     simp only [zy3] at hk
     rcases hk with rfl | hk
     · exact h.1
     · exact (zks (l := j :: l) h.2).2 k (by simpa using hk)⟩
theorem zsc : ∀ (l : List Value) (i : Nat), zj0 l i (ze5 l i) = l
 | [], _ => rfl
 | _ :: _, 0 => rfl
 | x :: l, i + 1 => by simp only [zj0, ze5]; rw [zsc l i]
theorem zv3 {n k : Nat} (d : Bool) (hk : k < n) : (Array.replicate n false).getD k d = false := by
 rw [z1o, z3b, if_pos hk]; rfl
theorem zrl (n k : Nat) : (Array.replicate n false).getD k false = false := by
 rw [z1o, z3b]; split <;> rfl
def rvS (tmps : Array Value) : ResultVar → Sem Value
 | .tmp t => pure (tmps.getD t undef)
 | .cell a t => do loadVar t (← asAddr (tmps.getD a undef))
theorem zib {t : List Value} {h : zaf} {tmps : Array Value} (ht : tmps.toList = t) : ∀ {l : List ResultVar} {K : List Value → Prop}, resS P l t h K →
 ∃ vs, K vs ∧ ∀ w : World, w.heap = h → (l.mapM (rvS tmps)).run P w = .ok vs w
 | [], K, hh => ⟨[], hh, fun w _ => by simp⟩
 | .tmp i :: l, K, hh => by
   simp only [resS] at hh
   obtain ⟨vs, hK, hr⟩ := zib ht hh
   refine ⟨_, hK, fun w hw => ?_⟩
   have he : tmps.getD i undef = ze5 t i := by rw [← ht, zfc]; simp [z1o]
   have h1 : (rvS tmps (.tmp i)).run P w = .ok (ze5 t i) w := by rw [← he]; rfl
   simp only [z1x, Sem.run_bind, h1, hr w hw, zza]
   rfl
 | .cell i T :: l, K, hh => by
   simp only [resS] at hh
   split at hh
   · rename_i a ha
     obtain ⟨b, o, v, rfl, h1, h2⟩ := ztw hh
     obtain ⟨vs, hK, hr⟩ := zib ht h1
     refine ⟨_, hK, fun w hw => ?_⟩
     have he : tmps.getD i undef = .pointer (some ⟨b, o, none⟩) := by rw [← ha, ← ht, zfc]; simp [z1o]
     have h3 : (rvS tmps (.cell i T)).run P w = .ok v w := by
      show Sem.run P (do loadVar T (← asAddr (tmps.getD i undef))) w = _
      rw [he]
      simp only [asAddr, Sem.run_bind, Sem.run_pure, zza, h2 w hw]
     simp only [z1x, Sem.run_bind, h3, hr w hw, zza]
     rfl
   · exact hh.elim
theorem zr0 (vs : List Value) : (if h : vs.toArray.size = 1 then vs.toArray[0] else .tuple vs.toArray) = one vs := by
 match vs with
 | [] => rfl
 | [v] => rfl
 | v :: u :: vs => rw [dif_neg (by simp)]; rfl
theorem zpw {fn : Func} {tmps : Array Value} (ht : tmps.toList = t) {R : Value → zaf → Prop} (hh : resS P fn.results.toList t h fun vs => R (one vs) h) :
 ∃ v, R v h ∧ ∀ w : World, w.heap = h → (results fn tmps).run P w = .ok v w := by
 obtain ⟨vs, hK, hr⟩ := zib ht hh
 refine ⟨_, hK, fun w hw => ?_⟩
 have hf : results fn tmps = (fn.results.mapM (rvS tmps) >>= fun vs => pure (if h : vs.size = 1 then vs[0] else .tuple vs)) := by
  unfold results
  refine congrArg (· >>= _) (congrArg (Array.mapM · fn.results) (funext fun x => ?_))
  cases x <;> rfl
 have : (fn.results.mapM (rvS tmps)).run P w = .ok vs.toArray w := by
  rw [z2x, Sem.run_map, hr w hw]; rfl
 rw [hf, Sem.run_bind]
 rw [this]
 show Sem.run P (pure (if h : vs.toArray.size = 1 then vs.toArray[0] else .tuple vs.toArray)) w = _
 rw [zr0]
 rfl
end
def i64 (x : Int) : Prop := -9223372036854775808 ≤ x ∧ x ≤ 9223372036854775807
theorem w64 {x : Int} (h1 : -9223372036854775808 ≤ x) (h2 : x ≤ 9223372036854775807) : zyu .i64 x = x := by
 have hb : (2 ^ IntKind.i64.bits : Int) = 18446744073709551616 := by decide
 have hb1 : (2 ^ (IntKind.i64.bits - 1) : Int) = 9223372036854775808 := by decide
 simp only [zyu, IntKind.signed, hb, hb1, Bool.true_and, decide_eq_true_eq, ge_iff_le]
 split <;> omega
theorem w64n {n : Nat} (h : n < 9223372036854775807) : zyu .i64 ((n : Int) + 1) = ((n + 1 : Nat) : Int) := by
 rw [w64 (by omega) (by omega)]; omega
theorem cIf {p : Prop} [Decidable p] {B : Prop} (h1 : p → A) (h2 : ¬ p → B) : cond (decide p) A B := by
 by_cases h : p
 · rw [decide_eq_true h]; exact h1 h
 · rw [decide_eq_false h]; exact h2 h
theorem cEq {a b : Int} {B : Prop} (h1 : a = b → A) (h2 : a ≠ b → B) : cond (a == b) A B := by
 by_cases h : a = b
 · rw [beq_iff_eq.2 h]; exact h1 h
 · rw [beq_eq_false_iff_ne.2 h]; exact h2 h
theorem cNe {a b : Int} {B : Prop} (h1 : a ≠ b → A) (h2 : a = b → B) : cond (a != b) A B := by
 by_cases h : a = b
 · have : (a != b) = false := by simp [h]
   rw [this]; exact h2 h
 · have : (a != b) = true := by simpa using h
   rw [this]; exact h1 h
theorem zhp {b : Bool} {B : Prop} (h : cond b B A) : cond (!b) A B := by cases b <;> exact h
theorem cB {b : Bool} {B : Prop} (h1 : b = true → A) (h2 : b = false → B) : cond b A B := by cases b; exact h2 rfl; exact h1 rfl
structure KB (F : List Nat) (h h' : zaf) : Prop where
 size : h.size ≤ h'.size
 blk : ∀ b, b < h.size → b ∉ F → h'[b]? = h[b]?
abbrev Keep (h h' : zaf) : Prop := KB [] h h'
theorem KB.refl (F : List Nat) (h : zaf) : KB F h h := ⟨zy9 _, fun _ _ _ => rfl⟩
theorem KB.trans {a b c : zaf} (h : KB F a b) (k : KB F b c) : KB F a c :=
 ⟨Nat.le_trans h.size k.size, fun x hx hf => (k.blk x (z2b hx h.size) hf).trans (h.blk x hx hf)⟩
theorem KB.mono {G : List Nat} {a b : zaf} (h : KB F a b) (hs : ∀ x, x ∈ F → x < a.size → x ∈ G) : KB G a b :=
 ⟨h.size, fun x hx hf => h.blk x hx fun hm => hf (hs x hm hx)⟩
theorem KB.push (F : List Nat) (h : zaf) (o : Obj) : KB F h (h.push o) :=
 ⟨by simp, fun b hb _ => by rw [z2p, if_neg (by omega)]⟩
theorem zlf (h : zaf) (o : Obj) : (h.push o)[h.size]? = some o := by simp
theorem zof (h : zaf) (a : Addr) (v : Value) : (hset h a v).size = h.size := by simp [hset]
theorem zqk (h : zaf) (a : Addr) (v : Value) (hb : b ≠ a.block) : (hset h a v)[b]? = h[b]? := by
 simp only [hset, z1y]
 rw [if_neg (by omega)]
theorem hset_get (h : zaf) {o : Nat} (v : Value) {f : Nat × Nat} (hb : h[b]? = some (.cells c e f)) : (hset h ⟨b, o, none⟩ v)[b]? = some (.cells (c.setIfInBounds o v) e f) := by
 simp only [hset, z1y]
 simp [hb]
theorem KB.hset {a : Addr} (hb : a.block ∈ F) : KB F h (hset h a v) :=
 ⟨by rw [zof]; exact zy9 _, fun b _ hf => zqk h a v fun e => hf (e ▸ hb)⟩
theorem zbv {o : Obj} (hb : h[b]? = some o) : b < h.size := (z2y.1 hb).1
theorem KB.get {h' : zaf} (k : KB F h h') {o : Obj} (hb : h[b]? = some o) (hf : b ∉ F) : h'[b]? = some o := by
 rw [k.blk b (zbv hb) hf]; exact hb
theorem zxs {h' : zaf} (hb : h'[b]? = h[b]?) (o : Nat) : hcell h' ⟨b, o, none⟩ = hcell h ⟨b, o, none⟩ := by unfold hcell; simp only [hb]
theorem hcell_lt {o : Nat} (hv : hcell h ⟨b, o, none⟩ = some v) : b < h.size := by
 unfold hcell at hv
 cases hb : h[b]? with
 | none => simp [hb] at hv
 | some x => exact zbv hb
theorem KB.cell {h' : zaf} (k : KB F h h') {o : Nat} (hv : hcell h ⟨b, o, none⟩ = some v) (hf : b ∉ F) : hcell h' ⟨b, o, none⟩ = some v := by
 rw [zxs (k.blk b (hcell_lt hv) hf)]; exact hv
theorem zaz {f : Nat × Nat} (hb : h[b]? = some (.cells c e f)) (o : Nat) : hcell h ⟨b, o, none⟩ = c[o]? := by
 unfold hcell; simp [hb]
theorem zsm (hb : h[b]? = some (.cells c e (0, 0))) (o : Nat) : zi3 h ⟨b, o, none⟩ = false := by
 unfold zi3; simp [hb]
theorem zts {o : Obj} {K : Nat → zaf → Prop} (hK : ∀ h1 : zaf, h1[h.size]? = some o → KB [] h h1 → h1.size = h.size + 1 → K h.size h1) : zr2 h o K :=
 hK _ (zlf h o) (.push _ h o) (by simp)
theorem zvc {o : Nat} {K : zaf → Prop} (hb : h[b]? = some (.cells c e (0, 0))) (ho : o < c.size) (hv : single v = true)
 (hK : ∀ h' : zaf, h'[b]? = some (.cells (c.setIfInBounds o v) e (0, 0)) → KB [b] h h' → h'.size = h.size → K h') : stK h ⟨b, o, none⟩ v K :=
 ⟨hv, ⟨c[o], by rw [zaz hb]; simp [ho]⟩, zsm hb o, hK _ (hset_get h v hb) (.hset (by simp)) (zof _ _ _)⟩
theorem zgd {b : Nat} {e : TypeId} : ∀ {vs : List Value} {o i : Nat} {h : zaf} {K : zaf → Prop} {l : List Value}, h[b]? = some (.cells l.toArray e (0, 0)) → o + i + vs.length ≤ l.length → (∀ v ∈ vs, single v = true) →
 (∀ h' : zaf, h'[b]? = some (.cells (zar l (o + i) vs).toArray e (0, 0)) → KB [b] h h' → h'.size = h.size → K h') → zd5 b o vs i h K
 | [], o, i, h, K, l, hb, _, _, hK => hK h (by rw [zbc]; exact hb) (.refl _ _) rfl
 | v :: vs, o, i, h, K, l, hb, hl, hv, hK => by
   simp only [zzg] at hl
   show stK h ⟨b, addO o i, none⟩ v _
   rw [zda]
   refine zvc hb (by simp; omega) (hv v (by simp)) fun h1 h1b k1 s1 => ?_
   refine zgd (e := e) (l := l.set (o + i) v) (by rw [h1b]; simp) (by simp; omega) (fun u hu => hv u (by simp [hu])) fun h2 h2b k2 s2 => ?_
   refine hK h2 ?_ (k1.trans k2) (s2.trans s1)
   rw [h2b, zdm _ _ _ _ (by omega)]
   rfl
def SlOf {α : Type} (enc : α → List Value) (sz : Nat) (h : zaf) (a : Option Addr) (n c : Nat) (xs : List α) : Prop :=
 xs.length = n ∧ n ≤ c ∧ ∀ i x, xs[i]? = some x → ∃ b o, a = some ⟨b, o, none⟩ ∧ ∀ j v, (enc x)[j]? = some v → hcell h ⟨b, o + i * sz + j, none⟩ = some v
def OwnS (B : Nat) (e : TypeId) (sz : Nat) (h : zaf) (a : Option Addr) (n c : Nat) (cs : List Value) : Prop :=
 (a = none ∧ n = 0 ∧ c = 0 ∧ cs = []) ∨ ∃ (b : Nat) (l : Array Value), a = some ⟨b, 0, none⟩ ∧ B ≤ b ∧ h[b]? = some (.cells l e (0, 0)) ∧ l.size = c * sz ∧ (n ≤ c ∧ c ≤ 9223372036854775807) ∧ cs.length = n * sz ∧ ∀ (j : Nat) (v : Value), cs[j]? = some v → l[j]? = some v
theorem OwnS.nil (B : Nat) (e : TypeId) (sz : Nat) (h : zaf) : OwnS B e sz h none 0 0 [] := .inl ⟨rfl, rfl, rfl, rfl⟩
section
variable {P : Program}
theorem zab {β : Type} {s : Sem α} {f : α → Sem β} {K : β → zaf → Prop} : SWp P s h (fun a h' => SWp P (f a) h' K) → SWp P (s >>= f) h K := SWp.bind
theorem zaq {d : TypeDesc} (hd : P.underlying T = some d) {K : TypeDesc → zaf → Prop} (hK : K d h) : SWp P (underlying T) h K := by
 show SWp P (match P.underlying T with | some d => pure d | none => stuck "no such type") h K
 rw [hd]; exact hK
theorem zas {i : TypeInfo} (hi : P.info? T = some i) {K : TypeInfo → zaf → Prop} (hK : K i h) : SWp P (typeInfo T) h K := by
 show SWp P (match P.info? T with | some i => pure i | none => stuck "no such type") h K
 rw [hi]; exact hK
theorem zck {i : TypeInfo} (hi : P.info? T = some i) {K : Nat → zaf → Prop} (hK : K i.size h) : SWp P (sizeOf T) h K :=
 zab (zas hi hK)
theorem zf8 {i : TypeInfo} (hi : P.info? T = some i) (hz : i.zero = some z) (hK : K z h) : SWp P (zeroValue T) h K := by
 refine zab (zas hi ?_)
 rw [hz]; exact hK
theorem zbg {b o : Nat} {h : zaf} : ∀ {vs : List Value} {i : Nat} {acc : Array Value} {K : Array Value → zaf → Prop}, (∀ j v, vs[j]? = some v → hcell h ⟨b, o + (i + j), none⟩ = some v) → K (acc ++ vs.toArray) h →
 SWp P (loadCellsFrom ⟨b, o, none⟩ i vs.length acc) h K
 | [], i, acc, K, _, hK => by show K acc h; simpa using hK
 | v :: vs, i, acc, K, hc, hK => by
   show SWp P (load ((⟨b, o, none⟩ : Addr).add i) >>= fun v => loadCellsFrom ⟨b, o, none⟩ (i + 1) vs.length (acc.push v)) h K
   refine zab ⟨v, ?_, ?_⟩
   · rw [zay]; simpa using hc 0 v rfl
   · refine zbg (fun j u hu => ?_) (by simpa using hK)
     have := hc (j + 1) u (by simpa using hu)
     rw [show i + 1 + j = i + (j + 1) by omega]; exact this
theorem zf9 {l : List Value} {o : Nat} {K : Unit → zaf → Prop} (hb : h[b]? = some (.cells l.toArray e (0, 0))) (hl : o + vs.length ≤ l.length) (hv : ∀ v ∈ vs, single v = true)
 (hK : ∀ h' : zaf, h'[b]? = some (.cells (zar l o vs).toArray e (0, 0)) → KB [b] h h' → h'.size = h.size → K () h') : SWp P (storeCells ⟨b, o, none⟩ vs) h K :=
 za7 (K := K ()) (zgd (i := 0) hb (by omega) hv (by simpa using hK))
theorem zdz {n : Nat} {K : Unit → zaf → Prop} (hK : K () h) : SWp P (askRoom n) h K := by
 unfold askRoom
 split
 · exact hK
 · exact hK
def zuk (a : Option Addr) : List Nat :=
 match a with
 | some x => [x.block]
 | none => []
theorem za2 : ∀ (l : List Value) (o : Nat) (vs : List Value) (j : Nat), o + vs.length ≤ l.length → (zar l o vs)[j]? = if j < o then l[j]? else if j < o + vs.length then vs[j - o]? else l[j]?
 | l, o, [], j, _ => by
   rw [zbc]
   by_cases h1 : j < o
   · rw [if_pos h1]
   · rw [if_neg h1, if_neg (by simp only [z0z]; omega)]
 | [], o, v :: vs, j, h => by simp at h
 | x :: l, 0, v :: vs, 0, _ => by simp [zar]
 | x :: l, 0, v :: vs, j + 1, h => by
   simp only [zar, z2c, zzg] at *
   rw [za2 l 0 vs j (by omega)]
   simp only [Nat.not_lt_zero, if_false, zze, Nat.sub_zero]
   by_cases hj : j < vs.length
   · rw [if_pos hj, if_pos (by omega)]; simp
   · rw [if_neg hj, if_neg (by omega)]
 | x :: l, o + 1, v :: vs, 0, _ => by simp [zar]
 | x :: l, o + 1, v :: vs, j + 1, h => by
   have hh : o + (v :: vs).length ≤ l.length := by simp only [zzg] at *; omega
   simp only [zar, z2c]
   rw [za2 l o (v :: vs) j hh]
   by_cases h1 : j < o
   · rw [if_pos h1, if_pos (show j + 1 < o + 1 by omega)]
   · rw [if_neg h1, if_neg (show ¬ j + 1 < o + 1 by omega)]
     by_cases h2 : j < o + (v :: vs).length
     · rw [if_pos h2, if_pos (by omega), show j + 1 - (o + 1) = j - o by omega]
     · rw [if_neg h2, if_neg (by omega)]
theorem zoj {n : Nat} : ∀ (r c : Nat), Builtin.growBy n r c ≤ c ∨ Builtin.growBy n r c ≤ n + (n + 768) / 4
 | 0, c => .inl (zy9 _)
 | r + 1, c => by
   unfold Builtin.growBy
   split
   · exact .inl (zy9 _)
   · rename_i h
     rcases zoj (n := n) r (c + (c + 768) / 4) with h1 | h1
     · exact .inr (by omega)
     · exact .inr h1
theorem zco {n c : Nat} (h : c < n) : Builtin.nextslicecap n c ≤ 2 * n + 512 := by
 unfold Builtin.nextslicecap
 split
 · omega
 · split
   · omega
   · rcases zoj (n := n) 4 c with h1 | h1 <;> omega
theorem zym {B : Nat} {i : TypeInfo} {n c m cx b2 o2 : Nat} {new : List Value} 
 (hu : P.underlying T = some (.slice E)) (hi : P.info? E = some i) (hz : i.zero = some z) (hzs : z.cells.size = i.size) (hb : i.bytes ≠ 0) (hown : OwnS B E i.size h a n c cs) (hB : B ≤ h.size)
 (hnew : ∀ j v, new[j]? = some v → hcell h ⟨b2, o2 + j, none⟩ = some v) (hlen : new.length = m * i.size) (hs : ∀ v ∈ new, single v = true) (hbd : (2 * (n + m) + 512) * i.bytes ≤ 281474976710656)
 (hK : ∀ (a' : Option Addr) (c' : Nat) (h' : zaf), OwnS B E i.size h' a' (n + m) c' (cs ++ new) → KB (zuk a) h h' → (∀ b o, a' = some ⟨b, o, none⟩ → b ∈ zuk a ∨ h.size ≤ b) → K (.slice a' (n + m) c') h') :
 zqy P #[T, T] T (.slice a n c) (.slice (some ⟨b2, o2, none⟩) m cx) h K := by
 unfold zqy
 have hfc : ∀ {K' : Array Value → zaf → Prop}, K' new.toArray h → SWp P (Builtin.firstCells i.size m (.slice (some ⟨b2, o2, none⟩) m cx)) h K' := by
  intro K' hK'
  show SWp P (loadCells ⟨b2, o2, none⟩ (m * i.size)) h K'
  rw [← hlen]
  exact zbg (fun j v hv => by simpa using hnew j v hv) (by simpa using hK')
 show SWp P (underlying T >>= _) h K
 refine zab (zaq hu ?_)
 refine zab (zck hi ?_)
 refine zab (zab (zaq hu ?_))
 refine zab ?_
 show SWp P (Builtin.lenOf (.slice (some ⟨b2, o2, none⟩) m cx) >>= _) h K
 refine zab ?_
 show SWp P (if n + m ≤ c then _ else _) h K
 by_cases hcap : n + m ≤ c
 · rw [if_pos hcap]
   refine zab (hfc ?_)
   rcases hown with ⟨rfl, rfl, rfl, rfl⟩ | ⟨b, l, rfl, h1, h2, h3, h4, h5, h6⟩
   · have hm : m = 0 := by omega
     subst hm
     have hn0 : new = [] := z0p (by simpa using hlen)
     subst hn0
     exact hK none 0 h (.nil _ _ _ _) (.refl _ _) fun b o hbo => by cases hbo
   · show SWp P (storeCells ((⟨b, 0, none⟩ : Addr).add (n * i.size)) new.toArray.toList >>= _) h K
     rw [zay, zze]
     have hsz : n * i.size + new.length ≤ l.toList.length := by
      rw [hlen, ← z0j, z1z, h3]; exact z0k _ hcap
     refine zab (zf9 (l := l.toList) (by simpa using h2) (by simpa using hsz) hs fun h' h1b k1 s1 => ?_)
     refine hK (some ⟨b, 0, none⟩) c h' (.inr ⟨b, _, rfl, h1, h1b, ?_, ⟨hcap, h4.2⟩, ?_, ?_⟩) k1 fun b' o' hbo => .inl (by cases hbo; simp [zuk])
     · simp [zat, h3]
     · simp [h5, hlen, z0j]
     · intro j v hv
       simp only [z0a]
       rw [za2 _ _ _ _ hsz]
       by_cases hj : j < n * i.size
       · rw [if_pos hj]
         rw [zy7 (by omega)] at hv
         simpa using h6 j v hv
       · rw [if_neg hj]
         rw [zzn (by omega), h5] at hv
         rw [if_pos (by have := (zyz.1 hv).1; omega)]
         exact hv
 · rw [if_neg hcap]
   refine zab (zas hi ?_)
   rw [if_neg (by rintro ⟨-, h1 | h1⟩; exact absurd h1 (by simp); exact hb h1)]
   refine zab ?_
   refine zab (zas hi ?_)
   have hcap2 : ¬ Builtin.nextslicecap (n + m) c * i.bytes > 2 ^ 48 := by
    have h1 := zco (n := n + m) (c := c) (by omega)
    have h2 := z0k i.bytes h1
    omega
   rw [if_neg hcap2]
   refine zab ?_
   refine ⟨fun hf => (by cases hf), fun _ t => ?_⟩
   have hge : n + m ≤ (Question.appendCap (n + m) c E).cut t ∧ (Question.appendCap (n + m) c E).cut t ≤ 9223372036854775807 := by
    have hbig : n + m < 2 ^ 63 := by
     have : 2 * (n + m) + 512 ≤ (2 * (n + m) + 512) * i.bytes := Nat.le_mul_of_pos_right _ (Nat.pos_of_ne_zero hb)
     omega
    have := Nat.mod_lt t (show 2 ^ 63 - (n + m) > 0 by omega)
    simp only [Question.cut]
    omega
   generalize (Question.appendCap (n + m) c E).cut t = c' at hge ⊢
   refine zab (zas hi ?_)
   refine zab (zdz ?_)
   have hold : ∀ {K' : Array Value → zaf → Prop}, K' cs.toArray h → SWp P (Builtin.firstCells i.size n (.slice a n c)) h K' := by
    intro K' hK'
    rcases hown with ⟨rfl, rfl, rfl, rfl⟩ | ⟨b, l, rfl, h1, h2, h3, h4, h5, h6⟩
    · exact hK'
    · show SWp P (loadCells ⟨b, 0, none⟩ (n * i.size)) h K'
      rw [← h5]
      exact zbg (fun j v hv => by rw [zaz h2, zze, zze]; exact h6 j v hv) (by simpa using hK')
   refine zab (hold ?_)
   refine zab ?_
   show SWp P (Builtin.firstCells i.size m (.slice (some ⟨b2, o2, none⟩) m cx)) h _
   refine hfc ?_
   refine zab (zf8 hi hz ?_)
   have hcn : cs.length = n * i.size := by
    rcases hown with ⟨rfl, rfl, rfl, rfl⟩ | ⟨b, l, rfl, h1, h2, h3, h4, h5, h6⟩
    · simp
    · exact h5
   refine hK (some ⟨h.size, 0, none⟩) c' (h.push (.cells (cs.toArray ++ new.toArray ++ Builtin.zeroCells z.cells (c' - (n + m))) E)) (.inr ⟨h.size, _, rfl, hB, zlf _ _, ?_, hge, ?_, ?_⟩) (.push _ _ _) fun b o hbo => .inr (by cases hbo; exact zy9 _)
   · simp only [Array.size_append, z00, Builtin.zeroCells, Array.size_map, Array.size_range, hcn, hlen, hzs]
     rw [← z0j, ← z0j, show n + m + (c' - (n + m)) = c' by omega]
   · simp [hcn, hlen, z0j]
   · intro j v hv
     have hj := (zyz.1 hv).1
     rw [z10 (by simpa using hj)]
     simpa using hv
end
section
abbrev zac := List (Nat × Obj)
abbrev Fz := Nat → Option Obj
def Le (D D' : Fz) : Prop := ∀ b o, D b = some o → D' b = some o
theorem Le.refl (D : Fz) : Le D D := fun _ _ h => h
theorem Le.trans {A B C : Fz} (h : Le A B) (k : Le B C) : Le A C := fun b o x => k b o (h b o x)
def ids (C : List zac) : List Nat := C.flatten.map (·.1)
structure St (D : Fz) (C : List zac) (h : zaf) : Prop where
 nd : (ids C).Nodup
 own : ∀ p ∈ C.flatten, h[p.1]? = some p.2
 fz : ∀ b o, D b = some o → h[b]? = some o ∧ b ∉ ids C
variable {D D' : Fz} {C : List zac} {h h' : zaf}
theorem St.perm {C' : List zac} (S : St D C h) (p : C.flatten.Perm C'.flatten) : St D C' h where
 nd := (p.map _).nodup_iff.1 S.nd
 own q hq := S.own q (p.mem_iff.2 hq)
 fz b o hb := ⟨(S.fz b o hb).1, fun hm => (S.fz b o hb).2 ((p.map _).mem_iff.2 hm)⟩
theorem zik {α : Type} : ∀ {C : List (List α)} {i : Nat} {c : List α}, C[i]? = some c → C.flatten.Perm (c :: C.eraseIdx i).flatten
 | [], i, c, h => by simp at h
 | x :: C, 0, c, h => by simp at h; subst h; exact .refl _
 | x :: C, i + 1, c, h => by
   have := zik (C := C) (i := i) (c := c) (by simpa using h)
   simp only [zzd, z3c] at this ⊢
   refine (this.append_left x).trans ?_
   rw [← zy8, ← zy8]
   exact z1q.append_right _
theorem St.pick (S : St D C h) (i : Nat) {c : zac} (hi : C[i]? = some c) : St D (c :: C.eraseIdx i) h := S.perm (zik hi)
theorem St.drop {c : zac} (S : St D (c :: C) h) : St D C h where
 nd := by have := S.nd; simp only [ids, zzd, zzr, z01] at this; exact this.2.1
 own p hp := S.own p (by simp only [zzd, zy6]; exact .inr hp)
 fz b o hb := ⟨(S.fz b o hb).1, fun hm => (S.fz b o hb).2 (by simp only [ids, zzd, zzr, zy6]; exact .inr hm)⟩
theorem St.get {c : zac} {o : Obj} (S : St D (c :: C) h) (hm : (b, o) ∈ c) : h[b]? = some o := S.own (b, o) (by simp [hm])
theorem St.upd {c c' : zac} (S : St D (c :: C) h) (k : KB (c.map (·.1)) h h') (hc : ∀ p ∈ c', h'[p.1]? = some p.2) (hn : (c'.map (·.1)).Nodup)
 (hi : ∀ p ∈ c', p.1 ∈ c.map (·.1) ∨ h.size ≤ p.1) : St D (c' :: C) h' := by
 have hnd := S.nd
 simp only [ids, zzd, zzr, z01] at hnd
 obtain ⟨h1, h2, h3⟩ := hnd
 have hlt : ∀ p ∈ C.flatten, p.1 < h.size := fun p hp => zbv (S.own p (by simp only [zzd, zy6]; exact .inr hp))
 have hout : ∀ p ∈ C.flatten, p.1 ∉ c.map (·.1) := fun p hp hm => h3 _ hm _ (zzu.2 ⟨p, hp, rfl⟩) rfl
 refine ⟨?_, ?_, ?_⟩
 · simp only [ids, zzd, zzr, z01]
   refine ⟨hn, h2, fun x hx y hy e => ?_⟩
   subst e
   obtain ⟨p, hp, rfl⟩ := zzu.1 hx
   obtain ⟨q, hq, he⟩ := zzu.1 hy
   have := hlt q hq
   rcases hi p hp with hm | hm
   · exact hout q hq (he ▸ hm)
   · omega
 · intro p hp
   simp only [zzd, zy6] at hp
   rcases hp with hp | hp
   · exact hc p hp
   · exact k.get (S.own p (by simp only [zzd, zy6]; exact .inr hp)) (hout p hp)
 · intro b o hb
   obtain ⟨g1, g2⟩ := S.fz b o hb
   simp only [ids, zzd, zzr, zy6, not_or] at g2 ⊢
   refine ⟨k.get g1 g2.1, fun hm => ?_, g2.2⟩
   obtain ⟨p, hp, rfl⟩ := zzu.1 hm
   rcases hi p hp with hm | hm
   · exact g2.1 hm
   · have := zbv g1; omega
theorem St.nil (S : St D C h) : St D ([] :: C) h := ⟨S.nd, S.own, S.fz⟩
theorem St.keep (S : St D C h) (k : Keep h h') : St D C h' := (S.nil.upd (c' := []) (k.mono fun x hx => by simp at hx) (by simp) (by simp) (by simp)).drop
theorem St.new {o : Obj} {K : Nat → zaf → Prop} (S : St D C h) (hK : ∀ (b : Nat) (h1 : zaf), St D ([(b, o)] :: C) h1 → K b h1) : zr2 h o K :=
 zts fun h1 hb k s => hK _ h1 (S.nil.upd (k.mono fun x hx => by simp at hx) (by simpa using hb) (by simp) (by simp))
theorem St.freeze {c : zac} (S : St D (c :: C) h) : ∃ D', Le D D' ∧ (∀ p ∈ c, D' p.1 = some p.2) ∧ St D' C h := by
 have hnd := S.nd
 simp only [ids, zzd, zzr, z01] at hnd
 obtain ⟨h1, h2, h3⟩ := hnd
 have key : ∀ p ∈ c, ∀ q ∈ c, p.1 = q.1 → p = q := fun p hp q hq e => by
  have hp' := S.own p (by simp [hp])
  have hq' := S.own q (by simp [hq])
  rw [e, hq'] at hp'
  exact Prod.ext e (Option.some.inj hp').symm
 refine ⟨fun b => match c.find? (fun p => p.1 == b) with | some p => some p.2 | none => D b, fun b o hb => ?_, fun p hp => ?_, S.drop.nd, S.drop.own, fun b o hb => ?_⟩
 · have : c.find? (fun p => p.1 == b) = none := by
    rw [z2d]
    intro p hp he
    simp only [beq_iff_eq] at he
    exact (S.fz b o hb).2 (by simp only [ids, zzd, zzr, zy6]; exact .inl (zzu.2 ⟨p, hp, he⟩))
   simp only [this]; exact hb
 · cases hf : c.find? (fun q => q.1 == p.1) with
   | none => rw [z2d] at hf; exact absurd (by simp) (hf p hp)
   | some q =>
     have h1 := z2n hf
     have h2 := z2o hf
     simp only [beq_iff_eq] at h2
     have := key q h1 p hp h2
     subst this
     simp only [hf]
 · cases hf : c.find? (fun q => q.1 == b) with
   | none => rw [hf] at hb; exact ⟨(S.drop.fz b o hb).1, (S.drop.fz b o hb).2⟩
   | some q =>
     rw [hf] at hb
     have h1 := z2n hf
     have h2' := z2o hf
     simp only [beq_iff_eq] at h2'
     cases hb
     refine ⟨h2' ▸ S.own q (by simp [h1]), fun hm => ?_⟩
     exact h3 b (zzu.2 ⟨q, h1, h2'⟩) b hm rfl
theorem onPtr_s {o : Nat} {K : Nat → Nat → Prop} (h : K b o) : zgj (some ⟨b, o, .none⟩) K := h
section
variable {b : Nat} {T : TypeId} {l : List Value} {c0 c1 c2 c3 c4 c5 : zac}
theorem St.st0 {o i : Nat} {K : zaf → Prop} (S : St D ([(b, .cells ⟨l⟩ T (0, 0))] :: C) h) (hl : zzc (o + i + vs.length) l.length = true) (hv : vs.all single = true)
 (hK : ∀ h', St D ([(b, .cells ⟨zar l (o + i) vs⟩ T (0, 0))] :: C) h' → K h') : zd5 b o vs i h K :=
 zgd (l := l) (e := T) (S.get (zzx _)) (zz0 hl) (z0d.1 hv) fun h' hb k s => hK h' (S.upd (by simpa using k) (by simpa using hb) (by simp) (by simp))
theorem St.sk0 {o : Nat} {K : zaf → Prop} (S : St D ([(b, .cells ⟨l⟩ T (0, 0))] :: C) h) (hl : zzc (o + 1) l.length = true) (hv : single v = true)
 (hK : ∀ h', St D ([(b, .cells ⟨l.set o v⟩ T (0, 0))] :: C) h' → K h') : stK h ⟨b, o, .none⟩ v K :=
 zvc (S.get (zzx _)) (by have := zz0 hl; simp only [z00]; omega) hv fun h' hb k s => hK h' (S.upd (by simpa using k) (by simpa using hb) (by simp) (by simp))
end
inductive U where
 | i (k : IntKind) (n : Int)
 | b (c : Bool)
 | s (x : ByteArray)
 | l (sz : Nat) (rows : List (List U))
 | p (o : Option (List U))
abbrev U.n (x : Int) : U := .i .i64 x
inductive Rd (D : Fz) : Value → U → Prop
 | int (k : IntKind) (n : Int) : Rd D (.int k n) (.i k n)
 | bool (c : Bool) : Rd D (.bool c) (.b c)
 | str (x : ByteArray) : Rd D (.string x) (.s x)
 | nil (a : Option Addr) (c sz : Nat) : Rd D (.slice a 0 c) (.l sz [])
 | pn : Rd D (.pointer none) (.p none)
 | pp (b o : Nat) (arr : Array Value) (T : TypeId) (f : Nat × Nat) (us : List U) (v : Nat → Value) : D b = some (.cells arr T f) → (∀ j u, us[j]? = some u → arr[o + j]? = some (v j)) → (∀ j u, us[j]? = some u → Rd D (v j) u) →
  Rd D (.pointer (some ⟨b, o, none⟩)) (.p (some us))
 | row (b o c : Nat) (arr : Array Value) (T : TypeId) (f : Nat × Nat) (rows : List (List U)) (sz : Nat) (v : Nat → Nat → Value) : D b = some (.cells arr T f) → rows.length ≤ c → (∀ r ∈ rows, r.length = sz) →
  (∀ i j r u, rows[i]? = some r → r[j]? = some u → arr[o + i * sz + j]? = some (v i j)) → (∀ i j r u, rows[i]? = some r → r[j]? = some u → Rd D (v i j) u) →
  Rd D (.slice (some ⟨b, o, none⟩) rows.length c) (.l sz rows)
theorem Rd.mono {u : U} (hr : Rd D v u) (l : Le D D') : Rd D' v u := by
 induction hr with
 | int k n => exact .int k n
 | bool c => exact .bool c
 | str x => exact .str x
 | nil a c sz => exact .nil a c sz
 | pn => exact .pn
 | pp b o arr T f us v h1 h2 h3 ih => exact .pp b o arr T f us v (l _ _ h1) h2 ih
 | row b o c arr T f rows sz v h1 h2 h3 h4 h5 ih => exact .row b o c arr T f rows sz v (l _ _ h1) h2 h3 h4 ih
theorem Rd.int_iff {n : Int} : Rd D v (.i k n) ↔ v = .int k n := ⟨fun h => by cases h; rfl, fun h => h ▸ .int k n⟩
theorem Rd.bool_iff {c : Bool} : Rd D v (.b c) ↔ v = .bool c := ⟨fun h => by cases h; rfl, fun h => h ▸ .bool c⟩
theorem Rd.str_iff {x : ByteArray} : Rd D v (.s x) ↔ v = .string x := ⟨fun h => by cases h; rfl, fun h => h ▸ .str x⟩
theorem Rd.shape {rows : List (List U)} (h : Rd D v (.l sz rows)) : ∃ a c, v = .slice a rows.length c ∧ rows.length ≤ c ∧ ∀ r ∈ rows, r.length = sz := by
 cases h with
 | nil a c => exact ⟨a, c, rfl, by simp, by simp⟩
 | row b o c arr T f rows sz v h1 h2 h3 h4 h5 => exact ⟨_, _, rfl, h2, h3⟩
theorem Rd.len {n c : Nat} {rows : List (List U)} (h : Rd D (.slice a n c) (.l sz rows)) : n = rows.length ∧ n ≤ c := by
 obtain ⟨a', c', e, hl, -⟩ := h.shape; cases e; exact ⟨rfl, hl⟩
inductive RdL (D : Fz) : List Value → List U → Prop
 | nil : RdL D [] []
 | cons {v : Value} {u : U} {vs : List Value} {us : List U} : Rd D v u → RdL D vs us → RdL D (v :: vs) (u :: us)
theorem RdL.mono {us : List U} (hr : RdL D vs us) (l : Le D D') : RdL D' vs us := by
 induction hr with
 | nil => exact .nil
 | cons a _ ih => exact .cons (a.mono l) ih
theorem RdL.len {us : List U} (hr : RdL D vs us) : vs.length = us.length := by
 induction hr with
 | nil => rfl
 | cons a _ ih => simp [ih]
theorem RdL.of_get {us : List U} (f : Nat → Value) (h : ∀ j u, us[j]? = some u → Rd D (f j) u) : RdL D ((zzh us.length).map f) us := by
 induction us generalizing f with
 | nil => exact .nil
 | cons u us ih =>
   rw [zzg, List.range_succ_eq_map, zzj, zz9]
   exact .cons (h 0 u rfl) (ih (f ∘ Nat.succ) fun j w hw => h (j + 1) w (by simpa using hw))
theorem RdL.get {us : List U} (hr : RdL D vs us) : ∀ {j : Nat} {u : U}, us[j]? = some u → ∃ v, vs[j]? = some v ∧ Rd D v u := by
 induction hr with
 | nil => intro j u h; simp at h
 | cons a _ ih =>
   intro j u h
   cases j with
   | zero => simp at h; subst h; exact ⟨_, rfl, a⟩
   | succ j => simpa using ih (by simpa using h)
theorem Rd.at {n c i : Nat} {rows : List (List U)} {r : List U} (hx : Rd D (.slice a n c) (.l sz rows)) (hi : rows[i]? = some r) :
 ∃ b o, a = some ⟨b, o, none⟩ ∧ Rd D (.pointer (some ⟨b, o + i * sz, none⟩)) (.p (some r)) ∧ r.length = sz := by
 cases hx with
 | nil => simp at hi
 | row b o c arr T f rows sz v h1 h2 h3 h4 h5 =>
   exact ⟨b, o, rfl, .pp b _ arr T f r (v i) h1 (fun j u hu => h4 i j r u hi hu) fun j u hu => h5 i j r u hi hu, h3 r (zy4 hi)⟩
inductive Own (D : Fz) (T : TypeId) (sz : Nat) : Option Addr → Nat → List (List U) → zac → Prop
 | nil (a : Option Addr) : Own D T sz a 0 [] []
 | row (b c : Nat) (arr : Array Value) (rows : List (List U)) (v : Nat → Nat → Value) : arr.size = c * sz → rows.length ≤ c ∧ c ≤ 9223372036854775807 → (∀ r ∈ rows, r.length = sz) →
  (∀ i j r u, rows[i]? = some r → r[j]? = some u → arr[i * sz + j]? = some (v i j)) → (∀ i j r u, rows[i]? = some r → r[j]? = some u → Rd D (v i j) u) →
  Own D T sz (some ⟨b, 0, none⟩) c rows [(b, .cells arr T (0, 0))]
theorem Own.mono {c : Nat} {rows : List (List U)} {ch : zac} (o : Own D T sz a c rows ch) (l : Le D D') : Own D' T sz a c rows ch := by
 cases o with
 | nil => exact .nil _
 | row b c arr rows v h1 h2 h3 h4 h5 => exact .row b c arr rows v h1 h2 h3 h4 fun i j r u a b => (h5 i j r u a b).mono l
theorem Own.len {c : Nat} {rows : List (List U)} {ch : zac} (o : Own D T sz a c rows ch) : rows.length ≤ c := by
 cases o with
 | nil => simp
 | row b c arr rows v h1 h2 h3 h4 h5 => exact h2.1
theorem Own.freeze {c : Nat} {rows : List (List U)} {ch : zac} (o : Own D T sz a c rows ch) (S : St D (ch :: C) h) : ∃ D', Le D D' ∧ St D' C h ∧ Rd D' (.slice a rows.length c) (.l sz rows) := by
 cases o with
 | nil => exact ⟨D, .refl D, S.drop, .nil _ _ _⟩
 | row b c arr rows v h1 h2 h3 h4 h5 =>
   obtain ⟨D', l, g, S'⟩ := S.freeze
   exact ⟨D', l, S', .row b 0 c arr T (0, 0) rows sz v (g (b, _) (by simp)) h2.1 h3 (fun i j r u a b => by rw [zze]; exact h4 i j r u a b) fun i j r u a b => (h5 i j r u a b).mono l⟩
theorem RdL.single {us : List U} (hr : RdL D vs us) : ∀ v ∈ vs, single v = true := by
 induction hr with
 | nil => intro v h; simp at h
 | cons a _ ih =>
   intro v hv
   rcases zy3.1 hv with rfl | hv
   · cases a <;> rfl
   · exact ih v hv
end
variable {n : Nat} {rows : List (List U)} {ch : zac} {us : List U}
section
variable {D D' : Fz} {C : List zac} {h h' : zaf} {P : Program}
theorem fl_get {α : Type} {enc : α → List Value} {sz : Nat} (he : ∀ x, (enc x).length = sz) : ∀ (xs : List α) (j : Nat) (v : Value), (xs.flatMap enc)[j]? = some v → ∃ i t x, xs[i]? = some x ∧ (enc x)[t]? = some v ∧ j = i * sz + t
 | [], j, v, h => by simp at h
 | x :: xs, j, v, h => by
   rw [z2z] at h
   by_cases hj : j < sz
   · rw [zy7 (by rw [he]; exact hj)] at h
     exact ⟨0, j, x, rfl, h, by omega⟩
   · rw [zzn (by rw [he]; omega), he] at h
     obtain ⟨i, t, y, h1, h2, h3⟩ := fl_get he xs (j - sz) v h
     exact ⟨i + 1, t, y, by simpa using h1, h2, by rw [zzy]; omega⟩
theorem fl_len {enc : α → List Value} (he : ∀ x, (enc x).length = sz) (xs : List α) : (xs.flatMap enc).length = xs.length * sz := by
 induction xs with
 | nil => simp
 | cons x xs ih => rw [z2z, zzl, ih, he, zzg, zzy]; omega
theorem fl_put {α : Type} {enc : α → List Value} {sz : Nat} (he : ∀ x, (enc x).length = sz) : ∀ (xs : List α) (i t : Nat) (x : α) (v : Value), xs[i]? = some x → (enc x)[t]? = some v → (xs.flatMap enc)[i * sz + t]? = some v
 | [], i, t, x, v, h, _ => by simp at h
 | y :: xs, i, t, x, v, h, hv => by
   rw [z2z]
   cases i with
   | zero =>
     simp at h; subst h
     have hj := (zyz.1 hv).1
     rw [z11, zze, zy7 hj]
     exact hv
   | succ i =>
     rw [zzn (by rw [he]; rw [zzy]; omega)]
     rw [he, show (i + 1) * sz + t - sz = i * sz + t by rw [zzy]; omega]
     exact fl_put he xs i t x v (by simpa using h) hv
def cellsOf (n sz : Nat) (v : Nat → Nat → Value) : List Value := (zzh n).flatMap fun i => (zzh sz).map (v i)
theorem zb3 (n sz : Nat) (v : Nat → Nat → Value) : (cellsOf n sz v).length = n * sz := by
 rw [cellsOf, fl_len (sz := sz) (by simp)]; simp
theorem zcw {v : Nat → Nat → Value} {j : Nat} {x : Value} (h : (cellsOf n sz v)[j]? = some x) : ∃ i t, i < n ∧ t < sz ∧ j = i * sz + t ∧ x = v i t := by
 obtain ⟨i, t, y, h1, h2, h3⟩ := fl_get (sz := sz) (by simp) _ _ _ h
 obtain ⟨h4, h5⟩ := zyz.1 h1
 obtain ⟨h6, h7⟩ := zyz.1 h2
 simp at h4 h5 h6 h7
 subst h5
 exact ⟨i, t, h4, h6, h3, h7.symm⟩
theorem zjd (v : Nat → Nat → Value) {i t : Nat} (hi : i < n) (ht : t < sz) : (cellsOf n sz v)[i * sz + t]? = some (v i t) :=
 fl_put (sz := sz) (by simp) _ i t i _ (by simp [hi]) (by simp [ht])
def Src (D : Fz) (h : zaf) (sz : Nat) (a : Option Addr) (rows : List (List U)) : Prop :=
 (∀ r ∈ rows, r.length = sz) ∧ (rows = [] ∨ ∃ (b o : Nat) (w : Nat → Nat → Value), a = some ⟨b, o, none⟩ ∧ ∀ i j r u, rows[i]? = some r → r[j]? = some u → hcell h ⟨b, o + i * sz + j, none⟩ = some (w i j) ∧ Rd D (w i j) u)
theorem Rd.src {c : Nat} (x : Rd D (.slice a n c) (.l sz rows)) (S : St D C h) : Src D h sz a rows := by
 refine ⟨(x.shape).elim fun _ h => h.elim fun _ h => h.2.2, ?_⟩
 cases x with
 | nil => exact .inl rfl
 | row b o c arr T f rows sz v h1 h2 h3 h4 h5 => exact .inr ⟨b, o, v, rfl, fun i j r u hi hj => ⟨by rw [zaz (S.fz _ _ h1).1]; exact h4 i j r u hi hj, h5 i j r u hi hj⟩⟩
theorem Rd.part {c : Nat} (x : Rd D (.slice a n c) (.l sz rows)) {l r : Nat} (hl : l ≤ r) (hr : r ≤ n) : Rd D (.slice (slA a c l sz) (zhb r l) (zhb c l)) (.l sz ((rows.take r).drop l)) := by
 have hsub : ∀ p q, zhb p q = p - q := fun p q => by
  unfold zhb
  cases q with
  | zero => rfl
  | succ q => rfl
 rw [hsub, hsub]
 cases x with
 | nil =>
   have : r = 0 := by omega
   subst this
   simp only [z2q, List.drop_nil, Nat.zero_sub]
   exact .nil _ _ _
 | row b o c arr T f rows sz v h1 h2 h3 h4 h5 =>
   have hlen : ((rows.take r).drop l).length = r - l := by simp; omega
   by_cases hz : (rows.take r).drop l = []
   · rw [hz]; have : r - l = 0 := by rw [← hlen, hz]; rfl
     rw [this]; exact .nil _ _ _
   have hlt : l < r := by
    rcases z0o l r with h | h
    · exact h
    · exfalso; apply hz; apply z0p; omega
   have ha : slA (some ⟨b, o, none⟩) c l sz = some ⟨b, o + l * sz, none⟩ := by
    unfold slA
    cases l with
    | zero => simp
    | succ l =>
      show (if c = l + 1 then _ else _) = _
      rw [if_neg (by omega)]; rfl
   rw [ha, ← hlen]
   refine .row b (o + l * sz) (c - l) arr T f _ sz (fun i j => v (i + l) j) h1 (by omega) (fun q hq => h3 q (z1r (z1s hq))) (fun i j q u hi hj => ?_) (fun i j q u hi hj => ?_)
   · rw [z1d] at hi
     rw [z0l] at hi
     have hi' : rows[l + i]? = some q := by split at hi; exact hi; cases hi
     rw [show o + l * sz + i * sz + j = o + (i + l) * sz + j by rw [z0j]; omega]
     rw [Nat.add_comm l i] at hi'
     exact h4 _ j q u hi' hj
   · rw [z1d] at hi
     rw [z0l] at hi
     have hi' : rows[l + i]? = some q := by split at hi; exact hi; cases hi
     rw [Nat.add_comm l i] at hi'
     exact h5 _ j q u hi' hj
theorem Own.toS {c : Nat} (x : Own D T sz a c rows ch) (S : St D (ch :: C) h) : ∃ a0 v, (a = a0 ∨ (rows = [] ∧ c = 0 ∧ a0 = none)) ∧ OwnS 0 T sz h a0 rows.length c (cellsOf rows.length sz v) ∧ ch.map (·.1) = zuk a0 ∧
 (∀ r ∈ rows, r.length = sz) ∧ ∀ i j r u, rows[i]? = some r → r[j]? = some u → Rd D (v i j) u := by
 cases x with
 | nil => exact ⟨none, fun _ _ => undef, .inr ⟨rfl, rfl, rfl⟩, .nil _ _ _ _, rfl, by simp, by simp⟩
 | row b c arr rows v h1 h2 h3 h4 h5 =>
   refine ⟨_, v, .inl rfl, .inr ⟨b, arr, rfl, zzv _, S.get (zzx _), h1, h2, zb3 _ _ _, fun j x hx => ?_⟩, rfl, h3, h5⟩
   obtain ⟨i, t, hi, ht, rfl, rfl⟩ := zcw hx
   have hr : rows[i].length = sz := h3 _ (by simp)
   exact h4 i t rows[i] rows[i][t] (by simp [hi]) (by simp [hr, ht])
theorem Own.ofS {c : Nat} {v : Nat → Nat → Value} (x : OwnS 0 T sz h a n c (cellsOf n sz v)) (hn : n = rows.length) (hs : ∀ r ∈ rows, r.length = sz) (hr : ∀ i j r u, rows[i]? = some r → r[j]? = some u → Rd D (v i j) u) :
 ∃ ch, Own D T sz a c rows ch ∧ ch.map (·.1) = zuk a ∧ ∀ p ∈ ch, h[p.1]? = some p.2 := by
 subst hn
 rcases x with ⟨rfl, hn, rfl, -⟩ | ⟨b, l, rfl, -, h2, h3, h4, h5, h6⟩
 · have : rows = [] := z0p hn
   subst this
   exact ⟨[], .nil _, rfl, by simp⟩
 · refine ⟨_, .row b c l rows v h3 h4 hs (fun i j r u hi hj => ?_) hr, rfl, by simpa using h2⟩
   have e1 := (zyz.1 hi).1
   have e2 := (zyz.1 hj).1
   rw [hs r (zy4 hi)] at e2
   exact h6 _ _ (zjd v e1 e2)
theorem zje {m : Nat} {v w : Nat → Nat → Value} : cellsOf n sz v ++ cellsOf m sz w = cellsOf (n + m) sz fun i j => if i < n then v i j else w (i - n) j := by
 unfold cellsOf
 rw [List.range_add, List.flatMap_append]
 congr 1
 · rw [z2r, z2r]
   congr 1
   refine List.map_congr_left fun i hi => ?_
   simp at hi
   simp [hi]
 · rw [z2r, z2r, zz9]
   congr 1
   refine List.map_congr_left fun i hi => ?_
   simp
   intro a _ hlt; omega
theorem app_own0 {i : TypeInfo} {m cx b2 o2 : Nat} {new : List Value} 
 (hu : P.underlying T = some (.slice E)) (hi : P.info? E = some i) (hz : i.zero = some z) (hzs : z.cells.size = i.size) (hb : i.bytes ≠ 0) (hm : 0 < m)
 (hnew : ∀ j v, new[j]? = some v → hcell h ⟨b2, o2 + j, none⟩ = some v) (hlen : new.length = m * i.size) (hbd : (2 * (0 + m) + 512) * i.bytes ≤ 281474976710656)
 (hK : ∀ (a' : Option Addr) (c' : Nat) (h' : zaf), OwnS 0 E i.size h' a' (0 + m) c' ([] ++ new) → KB [] h h' → (∀ b o, a' = some ⟨b, o, none⟩ → h.size ≤ b) → K (.slice a' (0 + m) c') h') :
 zqy P #[T, T] T (.slice a 0 0) (.slice (some ⟨b2, o2, none⟩) m cx) h K := by
 unfold zqy
 have hfc : ∀ {K' : Array Value → zaf → Prop}, K' new.toArray h → SWp P (Builtin.firstCells i.size m (.slice (some ⟨b2, o2, none⟩) m cx)) h K' := by
  intro K' hK'
  show SWp P (loadCells ⟨b2, o2, none⟩ (m * i.size)) h K'
  rw [← hlen]
  exact zbg (fun j v hv => by simpa using hnew j v hv) (by simpa using hK')
 show SWp P (underlying T >>= _) h K
 refine zab (zaq hu ?_)
 refine zab (zck hi ?_)
 refine zab (zab (zaq hu ?_))
 refine zab ?_
 show SWp P (Builtin.lenOf (.slice (some ⟨b2, o2, none⟩) m cx) >>= _) h K
 refine zab ?_
 show SWp P (if 0 + m ≤ 0 then _ else _) h K
 rw [if_neg (by omega)]
 refine zab (zas hi ?_)
 rw [if_neg (by rintro ⟨-, h1 | h1⟩; exact absurd h1 (by simp); exact hb h1)]
 refine zab ?_
 refine zab (zas hi ?_)
 have hcap2 : ¬ Builtin.nextslicecap (0 + m) 0 * i.bytes > 2 ^ 48 := by
  have h1 := zco (n := 0 + m) (c := 0) (by omega)
  have h2 := z0k i.bytes h1
  omega
 rw [if_neg hcap2]
 refine zab ?_
 refine ⟨fun hf => (by cases hf), fun _ t => ?_⟩
 have hge : 0 + m ≤ (Question.appendCap (0 + m) 0 E).cut t ∧ (Question.appendCap (0 + m) 0 E).cut t ≤ 9223372036854775807 := by
  have hbig : 0 + m < 2 ^ 63 := by
   have : 2 * (0 + m) + 512 ≤ (2 * (0 + m) + 512) * i.bytes := Nat.le_mul_of_pos_right _ (Nat.pos_of_ne_zero hb)
   omega
  have := Nat.mod_lt t (show 2 ^ 63 - (0 + m) > 0 by omega)
  simp only [Question.cut]
  omega
 generalize (Question.appendCap (0 + m) 0 E).cut t = c' at hge ⊢
 refine zab (zas hi ?_)
 refine zab (zdz ?_)
 have hold : ∀ {K' : Array Value → zaf → Prop}, K' #[] h → SWp P (Builtin.firstCells i.size 0 (.slice a 0 0)) h K' := by
  intro K' hK'
  cases a with
  | none => exact hK'
  | some ad =>
    show SWp P (loadCells ad (0 * i.size)) h K'
    rw [z11]
    exact hK'
 refine zab (hold ?_)
 refine zab ?_
 show SWp P (Builtin.firstCells i.size m (.slice (some ⟨b2, o2, none⟩) m cx)) h _
 refine hfc ?_
 refine zab (zf8 hi hz ?_)
 refine hK (some ⟨h.size, 0, none⟩) c' (h.push (.cells (#[] ++ new.toArray ++ Builtin.zeroCells z.cells (c' - (0 + m))) E)) (.inr ⟨h.size, _, rfl, zzv _, zlf _ _, ?_, hge, ?_, ?_⟩) (.push _ _ _) fun b o hbo => (by cases hbo; exact zy9 _)
 · simp only [Array.size_append, z00, Builtin.zeroCells, Array.size_map, Array.size_range, hlen, hzs, z0z]
   rw [zze, zze, ← z0j, show m + (c' - m) = c' by omega]
 · simp [hlen]
 · intro j v hv
   have hj := (zyz.1 hv).1
   rw [z10 (by simpa using hj)]
   simpa using hv
theorem Own.app {i : TypeInfo} {a2 : Option Addr} {c m cx : Nat} {rows2 : List (List U)} (own : Own D E i.size a c rows ch) (S : St D (ch :: C) h)
 (hu : P.underlying T = some (.slice E)) (hi : P.info? E = some i) (hz : i.zero = some z) (hzs : z.cells.size = i.size) (hb : i.bytes ≠ 0) (src : Src D h i.size a2 rows2) (hm : m = rows2.length) (hbd : (2 * (rows.length + rows2.length) + 512) * i.bytes ≤ 281474976710656)
 (hne : rows2 ≠ [])
 (hK : ∀ a' c' ch' h', Own D E i.size a' c' (rows ++ rows2) ch' → St D (ch' :: C) h' → K (.slice a' (rows ++ rows2).length c') h') :
 zqy P #[T, T] T (.slice a rows.length c) (.slice a2 m cx) h K := by
 subst hm
 obtain ⟨a0, v, ha0, os, hids, hs, hr⟩ := own.toS S
 obtain ⟨hs2, hsrc⟩ := src
 obtain ⟨b2, o2, w, rfl, hw⟩ := hsrc.resolve_left hne
 have hsingle : ∀ x ∈ cellsOf rows2.length i.size w, single x = true := fun x hx => by
  obtain ⟨j, hj⟩ := zz4.1 hx
  obtain ⟨k, t, hk, ht, -, rfl⟩ := zcw hj
  have hr2 : rows2[k].length = i.size := hs2 _ (by simp)
  have := (hw k t rows2[k] rows2[k][t] (by simp [hk]) (by simp [hr2, ht])).2
  exact RdL.single (D := D) (vs := [w k t]) (us := [rows2[k][t]]) (.cons this .nil) _ (by simp)
 have hnew : ∀ j x, (cellsOf rows2.length i.size w)[j]? = some x → hcell h ⟨b2, o2 + j, none⟩ = some x := fun j x hx => by
  obtain ⟨k, t, hk, ht, rfl, rfl⟩ := zcw hx
  have hr2 : rows2[k].length = i.size := hs2 _ (by simp)
  have := (hw k t rows2[k] rows2[k][t] (by simp [hk]) (by simp [hr2, ht])).1
  rw [← this, z0t]
 have fin : ∀ (a' : Option Addr) (c' : Nat) (h' : zaf), OwnS 0 E i.size h' a' (rows.length + rows2.length) c' (cellsOf rows.length i.size v ++ cellsOf rows2.length i.size w) → KB (zuk a0) h h' → (∀ b o, a' = some ⟨b, o, none⟩ → b ∈ zuk a0 ∨ h.size ≤ b) → K (.slice a' (rows.length + rows2.length) c') h' := fun a' c' h' os' k' hmv => by
  rw [zje] at os'
  obtain ⟨ch', own', hids', hget⟩ := Own.ofS (rows := rows ++ rows2) os' (by simp) (fun r hr' => (zy6.1 hr').elim (hs r) (hs2 r)) fun k j r u hk hj => by
   by_cases hkl : k < rows.length
   · rw [zy7 hkl] at hk
     simp only [if_pos hkl]; exact hr k j r u hk hj
   · rw [zzn (by omega)] at hk
     simp only [if_neg hkl]; exact (hw _ j r u hk hj).2
  have hl : (rows ++ rows2).length = rows.length + rows2.length := by simp
  rw [← hl]
  refine hK a' c' ch' h' own' (S.upd (by rw [hids]; exact k') hget ?_ fun p hp => ?_)
  · rw [hids']; cases a' <;> simp [zuk]
  · have hp' : p.1 ∈ zuk a' := by rw [← hids']; exact zzu.2 ⟨p, hp, rfl⟩
    rw [hids]
    cases a' with
    | none => simp [zuk] at hp'
    | some ad =>
      rcases os' with ⟨e, -⟩ | ⟨b, l, e, -⟩
      · cases e
      · cases e
        simp [zuk] at hp'; rw [hp']
        exact hmv b 0 rfl
 rcases ha0 with rfl | ⟨rfl, rfl, rfl⟩
 · exact zym (P := P) (T := T) (E := E) (B := 0) (new := cellsOf rows2.length i.size w) hu hi hz hzs hb os (zzv _) hnew (zb3 _ _ _) hsingle hbd fin
 · exact app_own0 (P := P) (T := T) (E := E) (new := cellsOf rows2.length i.size w) hu hi hz hzs hb (List.length_pos_iff.2 hne) hnew (zb3 _ _ _) hbd fun a' c' h' os' k' hmv => fin a' c' h' os' k' fun b o e => .inr (hmv b o e)
theorem zfg {i : TypeInfo} {a2 : Option Addr} {c cx : Nat} (hu : P.underlying T = some (.slice E)) (hi : P.info? E = some i) (hn : n ≤ c) (hK : K (.slice a n c) h) : zqy P #[T, T] T (.slice a n c) (.slice a2 0 cx) h K := by
 unfold zqy
 show SWp P (underlying T >>= _) h K
 refine zab (zaq hu ?_)
 refine zab (zck hi ?_)
 refine zab (zab (zaq hu ?_))
 refine zab ?_
 show SWp P (Builtin.lenOf (.slice a2 0 cx) >>= _) h K
 refine zab ?_
 show SWp P (if n + 0 ≤ c then _ else _) h K
 rw [if_pos (by omega)]
 have e : ∀ {K' : Array Value → zaf → Prop}, K' #[] h → SWp P (Builtin.firstCells i.size 0 (.slice a2 0 cx)) h K' := by
  intro K' hK'
  cases a2 with
  | none => exact hK'
  | some b =>
    show SWp P (loadCells b (0 * i.size)) h K'
    rw [z11]; exact hK'
 refine zab (e ?_)
 cases a with
 | none => exact hK
 | some b => exact zab hK
def zx0 (P : Program) (T E sz : Nat) : Bool :=
 (match P.underlying T with | some (.slice e) => zyw e E | _ => false) &&
 match P.info? E with
 | some i => zyw i.size sz && !zyw i.bytes 0 && zzc i.bytes 1000 && (match i.zero with | some z => zyw z.cells.size sz | none => false)
 | none => false
structure ElTy (P : Program) (T E sz : Nat) : Prop where
 ty : P.underlying T = some (.slice E)
 inf : ∃ i z, P.info? E = some i ∧ i.size = sz ∧ i.bytes ≠ 0 ∧ i.bytes ≤ 1000 ∧ i.zero = some z ∧ z.cells.size = sz
theorem ElTy.of {T E : Nat} (h : zx0 P T E sz = true) : ElTy P T E sz := by
 unfold zx0 at h
 simp only [zyy] at h
 obtain ⟨h1, h2⟩ := h
 refine ⟨?_, ?_⟩
 · cases hu : P.underlying T with
   | none => rw [hu] at h1; cases h1
   | some d =>
     rw [hu] at h1
     cases d <;> simp at h1
     rw [h1]
 · cases hi : P.info? E with
   | none => rw [hi] at h2; cases h2
   | some i =>
     rw [hi] at h2
     simp only [zyy, zzt] at h2
     obtain ⟨⟨⟨h3, h4⟩, h5⟩, h6⟩ := h2
     cases hz : i.zero with
     | none => rw [hz] at h6; cases h6
     | some z =>
       rw [hz] at h6
       exact ⟨i, z, rfl, zy1 h3, (fun e => by rw [e] at h4; cases h4), zz0 h5, hz, zy1 h6⟩
theorem app_w {T E : Nat} {a2 : Option Addr} {c m cx : Nat} {r r2 : List (List U)} (ty : ElTy P T E sz) (own : Own D E sz a c r ch) (S : St D (ch :: C) h) (src : Src D h sz a2 r2) (hn : n = r.length) (hm : m = r2.length) (hb : r.length + r2.length ≤ 1000000)
 (hK : ∀ a' c' ch' h', Own D E sz a' c' (r ++ r2) ch' → St D (ch' :: C) h' → K (.slice a' (r ++ r2).length c') h') : zqy P #[T, T] T (.slice a n c) (.slice a2 m cx) h K := by
 obtain ⟨hT, i, z, hi, hsz, hby, hby2, hz, hzs⟩ := ty
 subst hm hn
 by_cases hr2 : r2 = []
 · subst hr2
   refine zfg (E := E) hT hi own.len ?_
   simpa using hK a c ch h (by simpa using own) S
 subst hsz
 have hbd : (2 * (r.length + r2.length) + 512) * i.bytes ≤ 281474976710656 := by
  have := Nat.mul_le_mul (show 2 * (r.length + r2.length) + 512 ≤ 2000512 by omega) hby2
  omega
 exact Own.app own S hT hi hz hzs hby src rfl hbd hr2 fun a' c' ch' h' own' S' => hK a' c' ch' h' own' S'
end
end Go.Proofs.YtacglpinmpncaaaGreat
namespace Go.Proofs
open Go.Shelf
def Tryz.sortLT_ren : Go.Shelf.Ren := ⟨fun | 6 => 222 | 15 => 309 | 14 => 308 | 28 => 359 | 29 => 360 | 20 => 351 | 21 => 352 | 22 => 353 | 23 => 354 | 24 => 355 | 25 => 356 | 26 => 357 | 27 => 358 | 46 => 376 | 47 => 377 | 48 => 378 | 49 => 379 | 50 => 380 | 57 => 384 | n => n, fun | 22 => 132 | 24 => 103 | 25 => 219 | 3 => 3 | 39 => 117 | 0 => 0 | 53 => 399 | 55 => 381 | 4 => 4 | 46 => 393 | 45 => 392 | 50 => 109 | 5 => 5 | 9 => 9 | 66 => 408 | 70 => 412 | 76 => 416 | 77 => 417 | n => n, fun | n => n⟩
theorem Tryz.sortLT : Go.Proofs.SlLaysF0.n6 Tryz.prog Tryz.sortLT_ren := {
 mixed := by kernel_rfl
 f6 := ⟨Tryz.f222.name, by decide, Tryz.func222.trans (congrArg some (by kernel_rfl))⟩
 f14 := ⟨Tryz.f308.name, by decide, Tryz.func308.trans (congrArg some (by kernel_rfl))⟩
 f15 := Tryz.func309.trans (congrArg some (by kernel_rfl))
 f20 := ⟨Tryz.f351.name, by decide, Tryz.func351.trans (congrArg some (by kernel_rfl))⟩
 f21 := ⟨Tryz.f352.name, by decide, Tryz.func352.trans (congrArg some (by kernel_rfl))⟩
 f22 := ⟨Tryz.f353.name, by decide, Tryz.func353.trans (congrArg some (by kernel_rfl))⟩
 f23 := ⟨Tryz.f354.name, by decide, Tryz.func354.trans (congrArg some (by kernel_rfl))⟩
 f24 := ⟨Tryz.f355.name, by decide, Tryz.func355.trans (congrArg some (by kernel_rfl))⟩
 f25 := ⟨Tryz.f356.name, by decide, Tryz.func356.trans (congrArg some (by kernel_rfl))⟩
 f26 := ⟨Tryz.f357.name, by decide, Tryz.func357.trans (congrArg some (by kernel_rfl))⟩
 f27 := ⟨Tryz.f358.name, by decide, Tryz.func358.trans (congrArg some (by kernel_rfl))⟩
 f28 := Tryz.func359.trans (congrArg some (by kernel_rfl))
 f29 := Tryz.func360.trans (congrArg some (by kernel_rfl))
 f46 := ⟨Tryz.f376.name, by decide, Tryz.func376.trans (congrArg some (by kernel_rfl))⟩
 f47 := Tryz.func377.trans (congrArg some (by kernel_rfl))
 f48 := Tryz.func378.trans (congrArg some (by kernel_rfl))
 f49 := ⟨Tryz.f379.name, by decide, Tryz.func379.trans (congrArg some (by kernel_rfl))⟩
 f50 := ⟨Tryz.f380.name, by decide, Tryz.func380.trans (congrArg some (by kernel_rfl))⟩
 f57 := ⟨Tryz.f384.name, by decide, Tryz.func384.trans (congrArg some (by kernel_rfl))⟩
 t0 := Tryz.underlying0
 a0 := Tryz.isAgg0
 z0 := Tryz.sizeOf0
 v0 := Tryz.zeroValue0
 t3 := Tryz.underlying3
 a3 := Tryz.isAgg3
 z3 := Tryz.sizeOf3
 v3 := Tryz.zeroValue3
 t4 := Tryz.underlying4
 a4 := Tryz.isAgg4
 z4 := Tryz.sizeOf4
 v4 := Tryz.zeroValue4
 t5 := Tryz.underlying5
 a5 := Tryz.isAgg5
 z5 := Tryz.sizeOf5
 v5 := Tryz.zeroValue5
 t9 := Tryz.underlying9
 a9 := Tryz.isAgg9
 z9 := Tryz.sizeOf9
 v9 := Tryz.zeroValue9
 t22 := Tryz.underlying132
 a22 := Tryz.isAgg132
 z22 := Tryz.sizeOf132
 v22 := Tryz.zeroValue132
 t25 := Tryz.underlying219
 a25 := Tryz.isAgg219
 z25 := Tryz.sizeOf219
 v25 := Tryz.zeroValue219
 t39 := Tryz.underlying117
 a39 := Tryz.isAgg117
 z39 := Tryz.sizeOf117
 v39 := Tryz.zeroValue117
 t45 := Tryz.underlying392
 a45 := Tryz.isAgg392
 z45 := Tryz.sizeOf392
 v45 := Tryz.zeroValue392
 t46 := Tryz.underlying393
 a46 := Tryz.isAgg393
 z46 := Tryz.sizeOf393
 v46 := Tryz.zeroValue393
 t50 := Tryz.underlying109
 a50 := Tryz.isAgg109
 z50 := Tryz.sizeOf109
 v50 := Tryz.zeroValue109
 t53 := Tryz.underlying399
 a53 := Tryz.isAgg399
 z53 := Tryz.sizeOf399
 v53 := Tryz.zeroValue399
 t55 := Tryz.underlying381
 a55 := Tryz.isAgg381
 z55 := Tryz.sizeOf381
 v55 := Tryz.zeroValue381
 t66 := Tryz.underlying408
 a66 := Tryz.isAgg408
 z66 := Tryz.sizeOf408
 v66 := Tryz.zeroValue408
 t70 := Tryz.underlying412
 a70 := Tryz.isAgg412
 z70 := Tryz.sizeOf412
 v70 := Tryz.zeroValue412
 t76 := Tryz.underlying416
 a76 := Tryz.isAgg416
 z76 := Tryz.sizeOf416
 v76 := Tryz.zeroValue416
 t77 := Tryz.underlying417
 a77 := Tryz.isAgg417
 z77 := Tryz.sizeOf417
 v77 := Tryz.zeroValue417 }
end Go.Proofs
namespace Go.Proofs
open Go.Shelf
def Tryz.lays264_ren : Go.Shelf.Ren := ⟨fun | 264 => 339 | n => n, fun | 53 => 381 | 46 => 117 | n => n, fun | n => n⟩
theorem Tryz.lays264 : Go.Proofs.Lays.n264 Tryz.prog Tryz.lays264_ren := {
 mixed := by kernel_rfl
 f264 := Tryz.func339.trans (congrArg some (by kernel_rfl))
 t46 := Tryz.underlying117
 a46 := Tryz.isAgg117
 z46 := Tryz.sizeOf117
 v46 := Tryz.zeroValue117
 t53 := Tryz.underlying381
 a53 := Tryz.isAgg381
 z53 := Tryz.sizeOf381
 v53 := Tryz.zeroValue381 }
end Go.Proofs
namespace Go.Proofs.YtacglpinmpncaaaGreat
variable {n : Nat} {rows : List (List U)} {ch : zac} {us : List U}
variable {h : zaf} {K : Value → zaf → Prop}
variable {listed : Array Bool} {args c : Array Value} {op : BinOp} {Q : Exit → Act → World → Prop} {k : IntKind} {es : List MapEntry} {F done md : List Nat} {ops : List Oper} {cs t vs : List Value} {b sz : Nat} {o : Oper} {a : Option Addr} {r : Option Nat} {P : Program} {A : Prop} {α : Type} {E T e : TypeId} {v z : Value} {w : World} {C : World → Prop}
open _root_.Array renaming getD_eq_getD_getElem? → z1o, getElem?_append_left → z10, getElem?_eq_some_iff → z2y, getElem?_modify → z1y, getElem?_push → z2p, getElem?_replicate → z3b, getElem?_toList → z3a, length_toList → z1z, mapM_eq_mapM_toList → z2x, toArray_toList → z0n
open _root_.Bool renaming and_eq_true → zyy, false_eq_true → z0x, not_eq_true' → zzt, not_false → z2m, not_true → z0c, or_eq_true → z1p
open _root_.Int renaming le_refl → zzk
open _root_.Go.IntKind renaming wrap → zyu
open _root_.List renaming all_cons → z1g, all_eq_true → z0d, append_assoc → zy8, append_nil → zzw, cons_append → zz6, drop_drop → z08, drop_eq_getElem_cons → z1e, drop_eq_nil_of_le → z0u, drop_zero → z09, eq_nil_of_length_eq_zero → z0p, eraseIdx_cons_succ → z3c, ext_getElem? → z1a, find?_eq_none → z2d, find?_some → z2o, flatMap_cons → z2z, flatMap_def → z2r, flatten_cons → zzd, getD_eq_getElem?_getD → z07, getElem?_append_left → zy7, getElem?_append_right → zzn, getElem?_cons_succ → z2c, getElem?_drop → z1d, getElem?_eq_getElem → zy0, getElem?_eq_some_iff → zyz, getElem?_map → zy5, getElem?_take → z0l, getElem?_toArray → z0a, length → zyv, length_append → zzl, length_cons → zzg, length_nil → z0z, mapM_cons → z1x, map_append → zzr, map_cons → zzj, map_drop → z1f, map_map → zz9, map_take → z03, mem_append → zy6, mem_cons → zy3, mem_iff_getElem? → zz4, mem_map → zzu, mem_of_find?_eq_some → z2n, mem_of_getElem? → zy4, mem_of_mem_drop → z1s, mem_of_mem_take → z1r, mem_range → z1c, mem_singleton → z0s, mem_singleton_self → zzx, nodup_append → z01, pairwise_iff_getElem → z1t, perm_append_comm → z1q, range → zzh, replicate → zzi, set_cons_succ → z2a, size_toArray → z00, take_append_drop → z0h, take_nil → z2q, take_of_length_le → z0v, zip_cons_cons → z3d
open _root_.Nat renaming add_assoc → z0t, add_mul → z0j, add_zero → z0y, beq → zyw, ble → zzc, eq_of_beq_eq_true → zy1, le_of_ble_eq_true → zz0, le_refl → zy9, le_succ → z0i, lt_of_lt_of_le → z2b, lt_or_ge → z0o, mul_le_mul_right → z0k, succ_mul → zzy, zero_add → zze, zero_le → zzv, zero_mul → z11
open _root_.Option renaming getD_some → zz8, map_eq_some_iff → z0e, map_some → z0g
open _root_.Go.Result renaming andThen_ok → zza
section
open Go.Sort Go.Shelf
theorem grow_of {W w' : World} (k : Keep W.heap w'.heap) (s : Same W w') : ∃ q os', w' = grow (W.drewN q) os' := by
 refine ⟨w'.drawn - W.drawn, w'.heap.extract W.heap.size w'.heap.size, ?_⟩
 obtain ⟨hp, tp, dr, os, out⟩ := w'
 obtain ⟨h1, h2, h3, h4⟩ := s
 have k1 := k.size
 have k2 := k.blk
 simp only at h1 h2 h3 h4 k1 k2
 subst h1 h2 h3
 unfold grow World.drewN
 congr 1
 · refine Array.ext_getElem? fun i => ?_
   show hp[i]? = (W.heap ++ hp.extract W.heap.size hp.size)[i]?
   by_cases hi : i < W.heap.size
   · rw [z10 hi, k2 i hi (by simp)]
   · rw [Array.getElem?_append_right (by omega), Array.getElem?_extract]
     by_cases hj : i < hp.size
     · rw [if_pos (by omega), show W.heap.size + (i - W.heap.size) = i by omega]
     · rw [if_neg (by omega)]; simp; omega
 · show dr = W.drawn + (dr - W.drawn)
   omega
theorem zf4 {f : FuncId} (hc : zbh P f) (args : Array Value) (w : World) : (callFunc f args).run P w = .ok (.enter f args) w := zd7 hc args w
variable {P : Program} {ρ : Ren} {α : Type} [Inhabited α]
theorem zua {g : Nat} {enc : α → List Value} {k : Nat} {cf : α → α → Int} {blk off size : Nat} 
 (hrun : ∀ x y h, Run P g [.agg (enc x).toArray, .agg (enc y).toArray] h fun v h' => v = .int .i64 (cf x y) ∧ Keep h h') : CmpLays P g #[] enc k cf blk off size w := by
 intro m os dk _ x y
 refine ((hrun x y _).2 _ rfl).mono ?_
 rintro e w' ⟨v, rfl, ⟨rfl, hk⟩, hs⟩
 exact ⟨rfl, grow_of hk hs⟩
theorem zxr {enc : α → List Value} {k : Nat} {blk : Nat} {d : Array α} {l : Array Value} (hb : w.heap[blk]? = some (.cells l E (0, 0))) (hk : ∀ x, (enc x).length = k)
 (hl : ∀ i, i < d.size → ∀ j v, (enc d[i]!)[j]? = some v → l[i * k + j]? = some v) : HoldsK enc k w blk 0 d := by
 intro t ht
 have ht' : t < d.size * k := by simpa using ht
 have hk0 : 0 < k := by
  rcases Nat.eq_zero_or_pos k with h | h
  · subst h; simp at ht'
  · exact h
 have hdiv : t / k < d.size := (Nat.div_lt_iff_lt_mul hk0).2 ht'
 have hmod : t % k < k := Nat.mod_lt _ hk0
 rw [get_flatK enc k d t ht']
 refine ⟨?_, zsm (h := w.heap) hb _⟩
 show hcell w.heap ⟨blk, 0 + t, none⟩ = _
 rw [zaz hb, zze]
 have := hl (t / k) hdiv (t % k) (enc d[t / k]!)[t % k]! (by rw [getElem!_pos (enc d[t / k]!) (t % k) (by rw [hk]; exact hmod)]; simp [hk, hmod])
 rw [Nat.mul_comm, Nat.div_add_mod] at this
 exact this
theorem sortRun (L : SlLaysF0.n6 P ρ) {f : FuncId} (hf : ρ.f 6 = f) (hc : zbh P f) (k : Nat) (aE : ∀ w, (isAgg (ρ.t 24)).run P w = .ok true w) (zE : ∀ w, (Go.sizeOf (ρ.t 24)).run P w = .ok k w) (enc : α → List Value) (hk : ∀ x, (enc x).length = k) (h1 : ∀ x, ∀ v ∈ enc x, single v = true)
 (cf : α → α → Int) (hO : SWO (ltOf cf)) (g : Nat) (hg : zbh P g) (hrun : ∀ x y h, Run P g [.agg (enc x).toArray, .agg (enc y).toArray] h fun v h' => v = .int .i64 (cf x y) ∧ Keep h h')
 {blk cap : Nat} {d : List α} {l : Array Value} (hb : h[blk]? = some (.cells l E (0, 0)))
 (hl : ∀ (i : Nat) (x : α), d[i]? = some x → ∀ j v, (enc x)[j]? = some v → l[i * k + j]? = some v) (hsz : d.length < 4611686018427387904) (hcap : d.length ≤ cap) :
 Run P f [.slice (some ⟨blk, 0, none⟩) d.length cap, .func (.func g) #[] #[]] h fun v h' => v = .tuple #[] ∧ KB [blk] h h' ∧
  ∃ r : List α, r.Perm d ∧ r.Pairwise (fun x y => cf y x < 0 → False) ∧ SlOf enc k h' (some ⟨blk, 0, none⟩) d.length cap r ∧ ∃ l' : Array Value, h'[blk]? = some (.cells l' E (0, 0)) ∧ l'.size = l.size := by
 refine ⟨hc, fun w hw => ?_⟩
 subst hw
 have hH : HoldsK enc k w blk 0 d.toArray := zxr hb hk fun i hi j v hv => by
  have hi' : i < d.length := by simpa using hi
  rw [getElem!_pos d.toArray i hi] at hv
  exact hl i d[i] (by simp [hi']) j v (by simpa using hv)
 have hblk := zbv hb
 have hone : ∀ x, ∀ v ∈ enc x, v.oneCell' = true := fun x v hv => by
  have := h1 x v hv
  cases v <;> simp [single] at this <;> rfl
 have hmain := AnyQ.slices_SortFunc L k aE zE enc hk hone cf hO g #[] blk 0 cap d.toArray w (zf4 hg) (zua hrun) hH hblk (by simpa using hsz)
 rw [hf] at hmain
 simp only [z00] at hmain
 refine hmain.mono ?_
 rintro e w' ⟨rfl, d', n, os, hp, hs, hw⟩
 obtain ⟨hp1, hp2, hp3⟩ := hp
 simp only [z00] at hp1 hp2 hp3
 have hswk : SWK enc k w blk 0 d' w' := ⟨n, os, hw⟩
 have hh := hswk.holds hblk hH (by simpa using hp1)
 refine ⟨_, rfl, ⟨rfl, ⟨hswk.le, fun b hb1 hb2 => ?_⟩, d'.toList, ?_, ?_, ?_, putCells id 0 (flatK enc k d') l, ?_, by simp [putCells]⟩, ?_⟩
 · rw [hw]
   show ((putRow id _ blk 0 _).heap ++ os)[b]? = _
   rw [z10 (by rw [size_putRow]; exact hb1)]
   show ((Sort.ahead w n).heap.modify blk _)[b]? = _
   rw [z1y, if_neg (by simp at hb2; omega)]
   rfl
 · have e1 : d'.extract 0 d.length = d' := by rw [← hp1]; simp
   have e2 : d.toArray.extract 0 d.length = d.toArray := by simp
   rw [e1, e2] at hp3
   simpa using hp3
 · rw [z1t]
   intro i j hi hj hij
   simp only [z1z] at hi hj
   have := hs i j (zzv _) hij (by omega)
   rw [getElem!_pos d' j hj, getElem!_pos d' i hi] at this
   intro hlt
   simp only [Array.getElem_toList] at hlt
   unfold ltOf at this
   rw [decide_eq_true hlt] at this
   cases this
 · refine ⟨by simpa using hp1, hcap, fun i x hx => ⟨blk, 0, rfl, fun j v hv => ?_⟩⟩
   have hi : i < d'.size := by
    have := (zyz.1 hx).1
    simpa using this
   have hx' : d'[i]! = x := by
    rw [getElem!_pos d' i hi]
    simpa [hi] using hx
   have hj : j < k := by have := (zyz.1 hv).1; rwa [hk] at this
   have := (HoldsK.cell hh hi hj).1
   rw [hx', getElem!_pos (enc x) j (by rw [hk]; exact hj)] at this
   rw [zy0 (by rw [hk]; exact hj)] at hv
   rw [Option.some.inj hv] at this
   exact this
 · rw [hw]
   show ((putRow id _ blk 0 _).heap ++ os)[blk]? = _
   rw [z10 (by rw [size_putRow]; exact hblk)]
   show ((Sort.ahead w n).heap.modify blk _)[blk]? = _
   rw [z1y, if_pos rfl]
   show (w.heap[blk]?).map _ = _
   rw [hb]; rfl
 · rw [hw]
   exact ⟨rfl, rfl, rfl, Nat.le_add_right _ _⟩
theorem znk (L : SlLaysF0.n6 P ρ) {f : FuncId} (hf : ρ.f 6 = f) (hc : zbh P f) {p : Option Addr} {cap : Nat} {fv : Value} : Run P f [.slice p 0 cap, fv] h fun v h' => v = .tuple #[] ∧ h' = h := by
 refine ⟨hc, fun w hw => ?_⟩
 have := AnyF.slices_SortFunc_none L p cap fv w
 rw [hf] at this
 refine this.mono ?_
 rintro e w' ⟨rfl, rfl⟩
 exact ⟨_, rfl, ⟨rfl, hw⟩, .refl _⟩
end
inductive MK where
 | n (x : Int)
 | s (b : ByteArray)
 | a (l : List Int)
deriving DecidableEq
def mkV : MK → Value
 | .n x => .int .i64 x
 | .s b => .string b
 | .a l => .agg (l.map (Value.int .i64)).toArray
inductive KT where
 | n
 | s
 | a (w : Nat)
def isI (P : Program) (T : TypeId) : Bool :=
 match P.underlying T with
 | some (.int .i64) => true
 | _ => false
def zj1 (P : Program) : List Field → Nat → Bool
 | [], _ => true
 | f :: l, i => (f.offset == i) && (f.name != "_") && isI P f.type && zj1 P l (i + 1)
def zl0 (P : Program) (K : TypeId) : Option KT :=
 match P.underlying K with
 | some (.int .i64) => some .n
 | some .string => some .s
 | some (.array n e) => cond (isI P e && (match P.info? e with | some i => zyw i.size 1 | none => false)) (some (.a n)) none
 | some (.struct fs) => cond (zj1 P fs.toList 0 && !P.stoodInHeld K) (some (.a fs.size)) none
 | _ => none
def KT.has : KT → MK → Bool
 | .n, .n _ => true
 | .s, .s _ => true
 | .a w, .a l => zyw l.length w
 | _, _ => false
theorem zqg (h : isI P T = true) : P.underlying T = some (.int .i64) := by
 unfold isI at h
 split at h
 · assumption
 · cases h
theorem mkV_inj : ∀ {a b : MK}, mkV a = mkV b → a = b
 | .n x, .n y, h => by simp [mkV] at h; rw [h]
 | .s x, .s y, h => by simp [mkV] at h; rw [h]
 | .a x, .a y, h => by
   simp only [mkV, Value.agg.injEq] at h
   have h2 := congrArg Array.toList h
   simp only at h2
   have : x = y := by
    have inj : ∀ {x y : List Int}, x.map (Value.int .i64) = y.map (Value.int .i64) → x = y := by
     intro x
     induction x with
     | nil => intro y hh; cases y with | nil => rfl | cons _ _ => simp at hh
     | cons a x ih =>
       intro y hh
       cases y with
       | nil => simp at hh
       | cons b y => simp at hh; rw [hh.1, ih (by simpa using hh.2)]
    exact inj (by simpa using h2)
   rw [this]
 | .n _, .s _, h => by simp [mkV] at h
 | .n _, .a _, h => by simp [mkV] at h
 | .s _, .n _, h => by simp [mkV] at h
 | .s _, .a _, h => by simp [mkV] at h
 | .a _, .n _, h => by simp [mkV] at h
 | .a _, .s _, h => by simp [mkV] at h
section
variable {P : Program} {w : World}
theorem zh9 (hT : isI P T = true) (d : Nat) (a b : Int) : (Op.equalIn (d + 1) T (.int .i64 a) (.int .i64 b)).run P w = .ok (a == b) w := run_equalIn_int w d T _ _ _ _ (zqg hT)
theorem zbn (hT : isI P T = true) {cs : Array Value} {o : Nat} (hv : cs[o]? = some v) : (part T cs o).run P w = .ok v w :=
 zdo (by rw [zqg hT]) hv w
theorem zdu (l : List Int) (i : Nat) : (l.map (Value.int .i64)).toArray[i]? = (l[i]?).map (Value.int .i64) := by simp
theorem zg0 {e : TypeId} (hT : isI P e = true) (d : Nat) (a b : List Int) : ∀ (n s : Nat), s + n = a.length → a.length = b.length →
 (Op.eqItems (d + 1) e 1 (a.map (Value.int .i64)).toArray (b.map (Value.int .i64)).toArray (List.range' s n)).run P w = .ok (decide (a.drop s = b.drop s)) w
 | 0, s, h1, h2 => by
   rw [z0u (by omega), z0u (by omega)]
   simp [Op.eqItems]
 | n + 1, s, h1, h2 => by
   have ha : s < a.length := by omega
   have hb : s < b.length := by omega
   have ih := zg0 hT d a b n (s + 1) (by omega) h2
   have pa : (part e (a.map (Value.int .i64)).toArray (s * 1)).run P w = .ok (.int .i64 a[s]) w := zbn hT (by rw [Nat.mul_one, zdu, zy0 ha]; rfl)
   have pb : (part e (b.map (Value.int .i64)).toArray (s * 1)).run P w = .ok (.int .i64 b[s]) w := zbn hT (by rw [Nat.mul_one, zdu, zy0 hb]; rfl)
   simp only [List.range'_succ, Op.eqItems, Sem.run_bind, pa, pb, zh9 hT, zza]
   rw [z1e ha, z1e hb]
   by_cases hab : a[s] = b[s]
   · simp only [hab, beq_self_eq_true, z0c, z0x, if_false, ih, List.cons.injEq, true_and]
   · have : (a[s] == b[s]) = false := by simpa using hab
     simp only [this, z2m, if_true, Sem.run_pure, List.cons.injEq, hab, false_and, decide_false]
theorem zfo (d : Nat) (a b : List Int) : ∀ (fs : List Field) (i : Nat), zj1 P fs i = true → i + fs.length = a.length → a.length = b.length →
 (Op.eqFields (d + 1) (a.map (Value.int .i64)).toArray (b.map (Value.int .i64)).toArray fs).run P w = .ok (decide (a.drop i = b.drop i)) w
 | [], i, hf, h1, h2 => by
   simp only [z0z] at h1
   rw [z0u (by omega), z0u (by omega)]
   simp [Op.eqFields]
 | f :: fs, i, hf, h1, h2 => by
   simp only [zj1, zyy, beq_iff_eq, bne_iff_ne] at hf
   obtain ⟨⟨⟨ho, hn⟩, hT⟩, hr⟩ := hf
   simp only [zzg] at h1
   have ha : i < a.length := by omega
   have hb : i < b.length := by omega
   have ih := zfo d a b fs (i + 1) hr (by omega) h2
   have pa : (part f.type (a.map (Value.int .i64)).toArray i).run P w = .ok (.int .i64 a[i]) w := zbn hT (by rw [zdu, zy0 ha]; rfl)
   have pb : (part f.type (b.map (Value.int .i64)).toArray i).run P w = .ok (.int .i64 b[i]) w := zbn hT (by rw [zdu, zy0 hb]; rfl)
   simp only [Op.eqFields, if_pos hn, ho, Sem.run_bind, pa, pb, zh9 hT, zza]
   rw [z1e ha, z1e hb]
   by_cases hab : a[i] = b[i]
   · simp only [hab, beq_self_eq_true, z0c, z0x, if_false, ih, List.cons.injEq, true_and]
   · have : (a[i] == b[i]) = false := by simpa using hab
     simp only [this, z2m, if_true, Sem.run_pure, List.cons.injEq, hab, false_and, decide_false]
theorem znn {K : TypeId} (hk : zl0 P K = some (.a n)) {a b : List Int} (h1 : a.length = n) (h2 : b.length = n) : (Op.equal K (mkV (.a a)) (mkV (.a b))).run P w = .ok (decide (a = b)) w := by
 unfold zl0 at hk
 unfold Op.equal Op.maxDepth mkV
 split at hk <;> try (cases hk; done)
 · rename_i m e hu
   cases hc : (isI P e && (match P.info? e with | some i => zyw i.size 1 | none => false)) with
   | false => rw [hc] at hk; cases hk
   | true =>
     rw [hc] at hk
     simp only [cond_true, Option.some.injEq, KT.a.injEq] at hk
     subst hk
     simp only [zyy] at hc
     obtain ⟨hT, hi⟩ := hc
     cases hinf : P.info? e with
     | none => rw [hinf] at hi; cases hi
     | some i =>
       rw [hinf] at hi
       have hsz : P.cellsOf e = 1 := by simp only [Program.cellsOf, hinf]; exact zy1 hi
       rw [show (10000 : Nat) = 9998 + 1 + 1 from rfl, run_equalIn_array w (9998 + 1) _ _ hu hinf, hsz, List.range_eq_range']
       have := zg0 (P := P) (w := w) hT 9998 a b m 0 (by omega) (by omega)
       simpa using this
 · rename_i fs hu
   cases hc : (zj1 P fs.toList 0 && !P.stoodInHeld K) with
   | false => rw [hc] at hk; cases hk
   | true =>
     rw [hc] at hk
     simp only [cond_true, Option.some.injEq, KT.a.injEq] at hk
     subst hk
     simp only [zyy, zzt] at hc
     have hfo : P.fieldsOf K = fs := by simp [Program.fieldsOf, hu]
     rw [show (10000 : Nat) = 9998 + 1 + 1 from rfl, run_equalIn_struct w (9998 + 1) K _ _ (by rw [hfo]; exact hu) hc.2, hfo]
     have := zfo (P := P) (w := w) 9998 a b fs.toList 0 hc.1 (by simpa using h1.symm) (by omega)
     simpa using this
end
def zwv (P : Program) (g : TypeId → Option Nat) : List Field → Nat → Option Nat
 | [], i => some i
 | f :: l, i => cond ((f.offset == i) && (f.name != "_")) (match g f.type with
   | some n => zwv P g l (i + n)
   | none => none) none
def numT (P : Program) : Nat → TypeId → Option Nat
 | 0, _ => none
 | d + 1, T => cond (isI P T) (some 1) (match P.underlying T, P.info? T with
   | some (.struct fs), some i => (match zwv P (numT P d) fs.toList 0 with
     | some n => cond (zyw i.size n && !P.stoodInHeld T) (some n) none
     | none => none)
   | _, _ => none)
def valT (P : Program) (T : TypeId) (l : List Int) : Value := cond (isI P T) (match l with | [x] => .int .i64 x | _ => undef) (.agg (l.map (Value.int .i64)).toArray)
section
variable {P : Program} {w : World}
theorem zkd {d : Nat} (h : numT P (d + 1) T = some n) : (isI P T = true ∧ n = 1) ∨ (isI P T = false ∧ ∃ fs i, P.underlying T = some (.struct fs) ∧ P.info? T = some i ∧ zwv P (numT P d) fs.toList 0 = some n ∧ i.size = n ∧ P.stoodInHeld T = false) := by
 unfold numT at h
 cases hi : isI P T with
 | true => rw [hi] at h; cases h; exact .inl ⟨rfl, rfl⟩
 | false =>
   rw [hi] at h
   simp only [cond_false] at h
   split at h
   · rename_i fs i hu hinf
     split at h
     · rename_i k hk
       cases hc : (zyw i.size k && !P.stoodInHeld T) with
       | false => rw [hc] at h; cases h
       | true =>
         rw [hc] at h
         cases h
         simp only [zyy, zzt] at hc
         exact .inr ⟨rfl, fs, i, hu, hinf, hk, zy1 hc.1, hc.2⟩
     · cases h
   · cases h
theorem znm {d : Nat} (h : numT P d T = some n) {cs : List Int} {o : Nat} (ho : o + n ≤ cs.length) : (part T (cs.map (Value.int .i64)).toArray o).run P w = .ok (valT P T ((cs.drop o).take n)) w := by
 cases d with
 | zero => cases h
 | succ d =>
   rcases zkd h with ⟨hi, rfl⟩ | ⟨hi, fs, i, hu, hinf, -, hs, -⟩
   · rw [zbn (v := .int .i64 (cs[o]'(by omega))) hi (by rw [zdu, zy0 (by omega)]; rfl)]
     unfold valT
     rw [hi, z1e (by omega)]
     rfl
   · unfold valT
     rw [hi]
     simp only [part, isAgg, sizeOf, typeInfo, Sem.run_bind, run_underlying hu, zza, Sem.run_pure, run_program, hinf, if_true, hs, cond_false]
     congr 2
     apply Array.ext'
     simp [z03, z1f]
def EqN (P : Program) (d : Nat) : Prop := ∀ (T : TypeId) (n : Nat), numT P d T = some n → ∀ (D : Nat) (a b : List Int) (w : World), a.length = n → b.length = n → (Op.equalIn (D + d) T (valT P T a) (valT P T b)).run P w = .ok (decide (a = b)) w
theorem zfn {d : Nat} (IH : EqN P d) (D : Nat) (a b : List Int) : ∀ (fs : List Field) (i k : Nat), zwv P (numT P d) fs i = some k → k ≤ a.length → k ≤ b.length →
 i ≤ k ∧ (Op.eqFields (D + d) (a.map (Value.int .i64)).toArray (b.map (Value.int .i64)).toArray fs).run P w = .ok (decide ((a.take k).drop i = (b.take k).drop i)) w
 | [], i, k, hf, h1, h2 => by
   cases hf
   refine ⟨zy9 _, ?_⟩
   rw [z0u (by simp; omega), z0u (by simp; omega)]
   simp [Op.eqFields]
 | f :: fs, i, k, hf, h1, h2 => by
   simp only [zwv] at hf
   cases hc : ((f.offset == i) && (f.name != "_")) with
   | false => rw [hc] at hf; cases hf
   | true =>
     rw [hc] at hf
     simp only [cond_true] at hf
     simp only [zyy, beq_iff_eq, bne_iff_ne] at hc
     obtain ⟨ho, hn⟩ := hc
     split at hf
     · rename_i n hT
       obtain ⟨hik, ih⟩ := zfn IH D a b fs (i + n) k hf h1 h2
       have pa := znm (P := P) (w := w) hT (cs := a) (o := i) (by omega)
       have pb := znm (P := P) (w := w) hT (cs := b) (o := i) (by omega)
       have la : ((a.drop i).take n).length = n := by simp; omega
       have lb : ((b.drop i).take n).length = n := by simp; omega
       have he := IH f.type n hT D _ _ w la lb
       refine ⟨by omega, ?_⟩
       simp only [Op.eqFields, if_pos hn, ho, Sem.run_bind, pa, pb, he, zza]
       have sp : ∀ l : List Int, k ≤ l.length → (l.take k).drop i = (l.drop i).take n ++ (l.take k).drop (i + n) := fun l hl => by
        rw [← z08]
        conv => lhs; rw [← z0h n ((l.take k).drop i)]
        congr 1
        rw [List.drop_take, List.take_take, Nat.min_eq_left (by omega)]
       rw [sp a h1, sp b h2]
       by_cases hab : (a.drop i).take n = (b.drop i).take n
       · simp only [hab, decide_true, z0c, z0x, if_false, ih, List.append_cancel_left_eq]
       · have : ¬ ((a.drop i).take n ++ (a.take k).drop (i + n) = (b.drop i).take n ++ (b.take k).drop (i + n)) := fun e => hab (List.append_inj_left e (by rw [la, lb]))
         simp only [hab, decide_false, z2m, if_true, Sem.run_pure, this]
     · cases hf
theorem eqN : ∀ d, EqN P d
 | 0 => fun T n h => by cases h
 | d + 1 => fun T n h D a b w h1 h2 => by
   rcases zkd h with ⟨hi, rfl⟩ | ⟨hi, fs, i, hu, hinf, hfs, hs, hst⟩
   · match a, b, h1, h2 with
     | [x], [y], _, _ =>
       unfold valT
       rw [hi]
       have := zh9 (P := P) (w := w) hi (D + d) x y
       simp only [cond_true]
       rw [show D + (d + 1) = D + d + 1 from rfl, this]
       congr 1
       by_cases e : x = y
       · subst e; simp
       · simp [e]
   · have hfo : P.fieldsOf T = fs := by simp [Program.fieldsOf, hu]
     unfold valT
     rw [hi]
     simp only [cond_false]
     rw [show D + (d + 1) = D + d + 1 from rfl, run_equalIn_struct w (D + d) T _ _ (by rw [hfo]; exact hu) hst, hfo]
     obtain ⟨-, this⟩ := zfn (P := P) (w := w) (eqN d) D a b fs.toList 0 n hfs (by omega) (by omega)
     rw [this, z09, z09, z0v (by omega), z0v (by omega)]
theorem zvt (hk : numT P 6 T = some n) (hI : isI P T = false) {a b : List Int} (h1 : a.length = n) (h2 : b.length = n) : (Op.equal T (mkV (.a a)) (mkV (.a b))).run P w = .ok (decide (a = b)) w := by
 have := eqN 6 T n hk 9994 a b w h1 h2
 unfold valT at this
 rw [hI] at this
 exact this
end
section
open Go.MapKept
abbrev MV := List (MK × Value)
def zn4 : MV → MK → Nat → Option (Nat × Value)
 | [], _, _ => none
 | p :: m, k, i => if p.1 = k then some (i, p.2) else zn4 m k (i + 1)
def zn6 (es : List MapEntry) (m : MV) : Prop := es.map (fun e => (e.key, e.val)) = m.map fun p => (mkV p.1, p.2)
theorem zlx {m : MV} (h : zn6 [] m) : m = [] := by unfold zn6 at h; cases m <;> simp at h ⊢
theorem zn5 {e : MapEntry} {m : MV} (h : zn6 (e :: es) m) : ∃ p l, m = p :: l ∧ e.key = mkV p.1 ∧ e.val = p.2 ∧ zn6 es l := by
 cases m with
 | nil => simp [zn6] at h
 | cons p l =>
   simp only [zn6, zzj, List.cons.injEq, Prod.mk.injEq] at h
   exact ⟨p, l, rfl, h.1.1, h.1.2, h.2⟩
theorem zhl {m : MV} (h : zn6 es m) : es.length = m.length := by have := congrArg zyv h; simpa using this
theorem zsa {m : MV} (h : zn6 es m) {i : Nat} {e : MapEntry} (hi : es[i]? = some e) : ∃ p, m[i]? = some p ∧ e.key = mkV p.1 ∧ e.val = p.2 := by
 have h2 := congrArg (fun l => l[i]?) h
 simp only [zy5, hi, z0g] at h2
 cases hm : m[i]? with
 | none => rw [hm] at h2; simp at h2
 | some p =>
   rw [hm] at h2
   simp only [z0g, Option.some.injEq, Prod.mk.injEq] at h2
   exact ⟨p, rfl, h2.1, h2.2⟩
section
variable {P : Program} {w : World} {K : TypeId} {kt : KT}
theorem kt_n {k : MK} (h : KT.n.has k = true) : ∃ x, k = .n x := by cases k <;> simp [KT.has] at h; exact ⟨_, rfl⟩
theorem kt_s {k : MK} (h : KT.s.has k = true) : ∃ x, k = .s x := by cases k <;> simp [KT.has] at h; exact ⟨_, rfl⟩
theorem kt_a {k : MK} (h : (KT.a n).has k = true) : ∃ l, k = .a l ∧ l.length = n := by
 cases k with
 | a l => exact ⟨l, rfl, zy1 h⟩
 | n x => simp [KT.has] at h
 | s x => simp [KT.has] at h
theorem ktOf_n (h : zl0 P K = some .n) : P.underlying K = some (.int .i64) := by
 unfold zl0 at h
 split at h
 · assumption
 · cases h
 · generalize (isI P _ && _) = c at h; cases c <;> simp at h
 · generalize (zj1 P _ 0 && _) = c at h; cases c <;> simp at h
 · cases h
theorem ktOf_s (h : zl0 P K = some .s) : P.underlying K = some .string := by
 unfold zl0 at h
 split at h
 · cases h
 · assumption
 · generalize (isI P _ && _) = c at h; cases c <;> simp at h
 · generalize (zj1 P _ 0 && _) = c at h; cases c <;> simp at h
 · cases h
theorem ktOf_a (h : zl0 P K = some (.a n)) : (∃ e i, P.underlying K = some (.array n e) ∧ isI P e = true ∧ P.info? e = some i ∧ i.size = 1) ∨ ∃ fs, P.underlying K = some (.struct fs) ∧ zj1 P fs.toList 0 = true ∧ fs.size = n := by
 unfold zl0 at h
 split at h
 · cases h
 · cases h
 · rename_i m e hu
   left
   generalize hc : (isI P e && _) = c at h
   cases c with
   | false => cases h
   | true =>
     simp only [cond_true, Option.some.injEq, KT.a.injEq] at h
     subst h
     simp only [zyy] at hc
     obtain ⟨hT, hi⟩ := hc
     cases hinf : P.info? e with
     | none => rw [hinf] at hi; cases hi
     | some i => rw [hinf] at hi; exact ⟨e, i, hu, hT, hinf, zy1 hi⟩
 · rename_i fs hu
   right
   cases hc : (zj1 P fs.toList 0 && !P.stoodInHeld K) with
   | false => rw [hc] at h; cases h
   | true =>
     rw [hc] at h
     simp only [cond_true, Option.some.injEq, KT.a.injEq] at h
     simp only [zyy] at hc
     exact ⟨fs, hu, hc.1, h⟩
 · cases h
theorem zg2 (hT : isI P T = true) (em : Bool) (d : Nat) (x : Int) : (Instr.checkKey em (d + 1) T (.int .i64 x)).run P w = .ok () w :=
 run_checkKey (zqg hT) (show IsKey (.int .i64) (.int .i64 x) from rfl) em d
theorem zb0 (hk : zl0 P K = some kt) {k : MK} (hx : kt.has k = true) (em : Bool) : (Instr.checkKey em 10000 K (mkV k)).run P w = .ok () w := by
 cases kt with
 | n => obtain ⟨x, rfl⟩ := kt_n hx; exact run_checkKey (ktOf_n hk) (show IsKey (.int .i64) (.int .i64 x) from rfl) em 9999
 | s => obtain ⟨x, rfl⟩ := kt_s hx; exact run_checkKey (ktOf_s hk) (show IsKey .string (.string x) from trivial) em 9999
 | a n =>
   obtain ⟨l, rfl, hl⟩ := kt_a hx
   rcases ktOf_a hk with ⟨e, i, hu, hT, hi, hs⟩ | ⟨fs, hu, hf, hs⟩
   · rw [show (10000 : Nat) = 9998 + 1 + 1 from rfl, Instr.checkKey]
     simp only [Sem.run_bind, run_underlying hu, zza, mkV]
     simp only [Std.Legacy.Range.forIn_eq_forIn_range', Std.Legacy.Range.size, Nat.sub_zero, Nat.add_one_sub_one, Nat.div_one]
     have hsz : P.cellsOf e = 1 := by simp only [Program.cellsOf, hi]; exact hs
     have hj : ∀ j ∈ List.range' 0 n, j < l.length := fun j hj => by simp at hj; omega
     generalize List.range' 0 n = is at hj
     induction is with
     | nil => simp
     | cons j is ih =>
       have hlt := hj j (by simp)
       have pa : (part e (l.map (Value.int .i64)).toArray (j * 1)).run P w = .ok (.int .i64 l[j]) w := zbn hT (by rw [Nat.mul_one, zdu, zy0 hlt]; rfl)
       simp only [List.forIn_cons, Sem.run_bind, run_sizeOf w hi, hsz, zza, pa, zg2 hT, Sem.run_pure]
       exact ih fun y hy => hj y (by simp [hy])
   · rw [show (10000 : Nat) = 9998 + 1 + 1 from rfl, Instr.checkKey]
     simp only [Sem.run_bind, run_underlying hu, zza, mkV]
     rw [← Array.forIn_toList]
     have hll : 0 + fs.toList.length = l.length := by simp [hs, hl]
     clear hu hs hl
     generalize fs.toList = L at hf hll
     generalize 0 = i at hf hll
     induction L generalizing i with
     | nil => simp
     | cons f L ih =>
       simp only [zj1, zyy, beq_iff_eq, bne_iff_ne] at hf
       obtain ⟨⟨⟨ho, hn⟩, hT⟩, hr⟩ := hf
       simp only [zzg] at hll
       have hlt : i < l.length := by omega
       have pa : (part f.type (l.map (Value.int .i64)).toArray i).run P w = .ok (.int .i64 l[i]) w := zbn hT (by rw [zdu, zy0 hlt]; rfl)
       simp only [List.forIn_cons, Sem.run_bind, hn, ne_eq, not_false_eq_true, if_true, ho, zza, pa, zg2 hT, Sem.run_pure]
       exact ih (i + 1) hr (by omega)
theorem zrj {n : Nat} (hk : zl0 P K = some (.a n)) {k : MK} (hx : (KT.a n).has k = true) : ∀ (es : List MapEntry) (m : MV) (i : Nat), zn6 es m → (∀ p ∈ m, (KT.a n).has p.1 = true) → (Instr.findAsking K (mkV k) es i).run P w = .ok (zn4 m k i) w
 | [], m, i, he, _ => by rw [zlx he]; rfl
 | e :: es, m, i, he, hh => by
   obtain ⟨p, l, rfl, h1, h2, h3⟩ := zn5 he
   obtain ⟨a, rfl, ha⟩ := kt_a hx
   obtain ⟨b, hb, hbl⟩ := kt_a (hh p (by simp))
   have ih := zrj hk hx es l (i + 1) h3 fun q hq => hh q (by simp [hq])
   obtain ⟨pk, pv⟩ := p
   simp only at hb h1 h2
   subst hb
   simp only [Instr.findAsking, h1, h2, Sem.run_bind, znn hk ha hbl, zza, zn4]
   by_cases hab : a = b
   · subst hab; simp
   · have h4 : MK.a b ≠ MK.a a := fun e => hab (by injection e with e; exact e.symm)
     simp only [hab, decide_false, z0x, if_false, h4, ih]
theorem zlq {d : TypeDesc} (hd : ∀ k k' : MK, kt.has k = true → kt.has k' = true → Instr.sameNow d (mkV k) (mkV k') = some (decide (k' = k))) {k : MK} (hx : kt.has k = true) : ∀ (es : List MapEntry) (m : MV) (i : Nat), zn6 es m → (∀ p ∈ m, kt.has p.1 = true) → Instr.findNow d (mkV k) es i = some (zn4 m k i)
 | [], m, i, he, _ => by rw [zlx he]; rfl
 | e :: es, m, i, he, hh => by
   obtain ⟨p, l, rfl, h1, h2, h3⟩ := zn5 he
   have ih := zlq hd hx es l (i + 1) h3 fun q hq => hh q (by simp [hq])
   unfold Instr.findNow
   rw [h1, hd k p.1 hx (hh p (by simp))]
   simp only [zn4]
   by_cases hpk : p.1 = k
   · simp [hpk, h2]
   · simp [hpk, ih]
theorem zdd (hk : zl0 P K = some kt) {k : MK} (hx : kt.has k = true) {m : MV} (he : zn6 es m) (hh : ∀ p ∈ m, kt.has p.1 = true) : (Instr.findKey K (mkV k) es).run P w = .ok (zn4 m k 0) w := by
 cases kt with
 | n =>
   have hu := ktOf_n hk
   refine run_findKey hu (zlq (fun a b ha hb => ?_) hx es m 0 he hh)
   obtain ⟨x, rfl⟩ := kt_n ha
   obtain ⟨y, rfl⟩ := kt_n hb
   simp only [mkV, Instr.sameNow, if_true, MK.n.injEq]
   congr 1
   by_cases hxy : x = y
   · simp [hxy]
   · simp [hxy, Ne.symm hxy]
 | s =>
   have hu := ktOf_s hk
   refine run_findKey hu (zlq (fun a b ha hb => ?_) hx es m 0 he hh)
   obtain ⟨x, rfl⟩ := kt_s ha
   obtain ⟨y, rfl⟩ := kt_s hb
   simp only [mkV, Instr.sameNow, MK.s.injEq]
   congr 1
   by_cases hxy : x = y
   · rw [(bytes_beq x y).2 hxy]; simp [hxy]
   · have : (x == y) = false := by
      cases hc : (x == y) with
      | false => rfl
      | true => exact absurd ((bytes_beq x y).1 hc) hxy
     simp [this, Ne.symm hxy]
 | a n =>
   have hu : ∃ d, P.underlying K = some d ∧ ∀ e (es : List MapEntry), Instr.findNow d (mkV k) (e :: es) 0 = none := by
    obtain ⟨l, rfl, -⟩ := kt_a hx
    rcases ktOf_a hk with ⟨e, i, hu, -⟩ | ⟨fs, hu, -⟩
    · exact ⟨_, hu, fun e es => rfl⟩
    · exact ⟨_, hu, fun e es => rfl⟩
   obtain ⟨d, hu, hf⟩ := hu
   cases es with
   | nil => rw [zlx he]; exact run_findKey hu rfl
   | cons e es =>
     have := zrj (P := P) (w := w) hk hx (e :: es) m 0 he hh
     simp [Instr.findKey, run_underlying hu, Result.andThen, hf, this]
theorem ztg (k : MK) : Instr.sameBits 10000 (mkV k) (mkV k) = true := by
 cases k with
 | n x => simp [mkV, Instr.sameBits]
 | s x => simp only [mkV, Instr.sameBits]; exact (bytes_beq x x).2 rfl
 | a l =>
   rw [show (10000 : Nat) = 9999 + 1 from rfl]
   simp only [mkV, Instr.sameBits, beq_self_eq_true, Bool.true_and]
   induction l with
   | nil => rfl
   | cons x l ih =>
     simp only [zzj, z3d, z1g, zyy] at ih ⊢
     exact ⟨by simp [Instr.sameBits], ih⟩
theorem zvo (k : MK) : (Instr.keyThatStays (mkV k) (mkV k)).run P w = .ok (mkV k) w := by
 unfold Instr.keyThatStays
 rw [if_pos (ztg k)]
 rfl
end
end
inductive Ds where
 | nil
 | i (k : IntKind) (r : Ds)
 | l (z : Nat) (e r : Ds)
def zg8 (P : Program) : List Field → Nat → Nat → Bool
 | [], o, n => o == n
 | f :: fs, o, n => f.offset == o && zg8 P fs (o + P.cellsOf f.type) n
def dsAll (g : TypeId → Ds → Option Ds) : List TypeId → Ds → Option Ds
 | [], r => some r
 | t :: ts, r => (dsAll g ts r).bind (g t)
def dsOf (P : Program) : Nat → TypeId → Ds → Option Ds
 | 0, _, _ => none
 | n + 1, t, r =>
   match P.underlying t with
   | some (.int k) => some (.i k r)
   | some (.slice e) => if P.cellsOf e = 0 then none else (dsOf P n e .nil).map fun d => .l (P.cellsOf e) d r
   | some (.struct fs) => if zg8 P fs.toList 0 (P.cellsOf t) then dsAll (dsOf P n) (fs.toList.map (·.type)) r else none
   | _ => none
def ShU : Ds → List U → Prop
 | .nil, us => us = []
 | .i k r, us => ∃ n us', us = .i k n :: us' ∧ (Lit.int k n).wf = true ∧ ShU r us'
 | .l z e r, us => ∃ rows us', us = .l z rows :: us' ∧ rows.length ≤ maxLen ∧ (∀ row ∈ rows, ShU e row) ∧ ShU r us'
theorem RdL.append {D : Fz} {ws : List Value} {xs : List U} (h : RdL D vs us) (k : RdL D ws xs) : RdL D (vs ++ ws) (us ++ xs) := by
 induction h with
 | nil => exact k
 | cons a _ ih => exact .cons a ih
theorem zlw {α β : Type} {f : α → Option β} : ∀ {l : List α} {r : List β}, l.mapM f = some r → r.length = l.length ∧ ∀ (i : Nat) (x : α), l[i]? = some x → ∃ y, f x = some y ∧ r[i]? = some y
 | [], r, h => by simp at h; subst h; exact ⟨rfl, by simp⟩
 | x :: l, r, h => by
   rw [z1x] at h
   cases hx : f x with
   | none => rw [hx] at h; cases h
   | some y =>
     rw [hx] at h
     cases hl : l.mapM f with
     | none => rw [hl] at h; cases h
     | some ys =>
       rw [hl] at h
       cases h
       obtain ⟨h1, h2⟩ := zlw hl
       refine ⟨by simp [h1], fun i z hz => ?_⟩
       cases i with
       | zero => simp at hz; subst hz; exact ⟨y, hx, rfl⟩
       | succ i => simpa using h2 i z (by simpa using hz)
section
variable {H : Type} {enc : TypeId × Value → H} {P : Program} {w : World} {sp : Nat → Bool} {held : Bool}
def zo0 (h : zaf) : Fz := fun b => h[b]?
theorem all_rd {R : List Value → List U → Prop} (hR : ∀ {a b us xs}, R a us → R b xs → R (a ++ b) (us ++ xs)) (hR0 : R [] []) {g : TypeId → Ds → Option Ds} {r : TypeId → List Value → Option (DataW H × List MemPlace)}
 (ih : ∀ t cs x d rest, g t rest = some d → r t cs = some x → ∃ us, R cs us ∧ us.length = cs.length ∧ ∀ us', ShU rest us' → ShU d (us ++ us')) :
 ∀ (ts : List TypeId) (css : List (List Value)) (d rest : Ds), dsAll g ts rest = some d → css.length = ts.length → (∀ (i : Nat) (t : TypeId) (cs : List Value), ts[i]? = some t → css[i]? = some cs → ∃ x, r t cs = some x) →
   ∃ us, R css.flatten us ∧ us.length = css.flatten.length ∧ ∀ us', ShU rest us' → ShU d (us ++ us')
 | [], css, d, rest, hd, hl, _ => by
   have : css = [] := z0p hl
   subst this
   cases hd
   exact ⟨[], hR0, rfl, fun us' h => h⟩
 | t :: ts, css, d, rest, hd, hl, hx => by
   cases css with
   | nil => simp at hl
   | cons cs css =>
     simp only [dsAll, Option.bind_eq_some_iff] at hd
     obtain ⟨d1, hd1, hd2⟩ := hd
     obtain ⟨us, h1, h2, h3⟩ := all_rd hR hR0 ih ts css d1 rest hd1 (by simpa using hl) fun i t' cs' a b => hx (i + 1) t' cs' (by simpa using a) (by simpa using b)
     obtain ⟨x, hxx⟩ := hx 0 t cs rfl rfl
     obtain ⟨vs, g1, g2, g3⟩ := ih t cs x d d1 hd2 hxx
     exact ⟨vs ++ us, by simpa using hR g1 h1, by simp [g2, h2], fun us' hu => by rw [zy8]; exact g3 _ (h3 _ hu)⟩
theorem zjc {a : Addr} (h : w.cells? 0 a n = some cs) : cs.length = n ∧ ∀ j, j < n → w.cell? (a.add j) = cs[j]? := by
 unfold World.cells? at h
 rw [if_pos (zzv _)] at h
 obtain ⟨h1, h2⟩ := zlw h
 refine ⟨by simpa using h1, fun j hj => ?_⟩
 obtain ⟨y, e1, e2⟩ := h2 j j (by simp [hj])
 rw [e1, e2]
theorem drops {P : Program} {cs : List Value} : ∀ (fs : List Field) (o : Nat), zg8 P fs o cs.length = true → o ≤ cs.length → (fs.map fun f => (cs.drop f.offset).take (P.cellsOf f.type)).flatten = cs.drop o
 | [], o, h, _ => by simp only [zg8, beq_iff_eq] at h; subst h; simp
 | f :: fs, o, h, ho => by
   simp only [zg8, zyy, beq_iff_eq] at h
   obtain ⟨rfl, h2⟩ := h
   have hle : f.offset + P.cellsOf f.type ≤ cs.length := by
    have : ∀ (fs : List Field) (o : Nat), zg8 P fs o cs.length = true → o ≤ cs.length := by
     intro fs
     induction fs with
     | nil => intro o h; simp only [zg8, beq_iff_eq] at h; omega
     | cons f fs ih => intro o h; simp only [zg8, zyy, beq_iff_eq] at h; have := ih _ h.2; omega
    exact this _ _ h2
   rw [zzj, zzd, drops fs _ h2 hle, ← z08, z0h]
set_option maxRecDepth 10000 in
theorem zpj : ∀ (m n : Nat) (t : TypeId) (cs : List Value) (x : DataW H × List MemPlace) (d rest : Ds), dsOf P m t rest = some d → DataW.trod enc P w 0 sp held n t cs = some x →
 ∃ us, RdL (zo0 w.heap) cs us ∧ us.length = cs.length ∧ ∀ us', ShU rest us' → ShU d (us ++ us')
 | 0, n, t, cs, x, d, rest, hd, hx => by cases hd
 | m + 1, 0, t, cs, x, d, rest, hd, hx => by cases hx
 | m + 1, n + 1, t, cs, x, d, rest, hd, hx => by
   have ih := zpj m n
   rw [DataW.trod_step] at hx
   unfold dsOf at hd
   cases hu : P.underlying t with
   | none => rw [hu] at hd; cases hd
   | some td =>
     rw [hu] at hd
     cases td with
     | int k =>
       cases hd
       unfold DataW.trodStep at hx
       rw [hu] at hx
       split at hx <;> simp_all
       rename_i k' nn e1
       obtain ⟨⟨rfl, hw⟩, -⟩ := hx
       exact ⟨[.i k' nn], .cons (.int _ _) .nil, rfl, fun us' h => ⟨nn, us', rfl, hw, h⟩⟩
     | slice e =>
       simp only at hd
       split at hd
       · cases hd
       rename_i hce
       simp only [z0e] at hd
       obtain ⟨de, hde, rfl⟩ := hd
       rw [← DataW.trod_step] at hx
       rcases Go.Deep.open_slice hu hx with ⟨rfl, -⟩ | ⟨a, len, cap, mm, n', DD, Pl, rfl, hb, hl, hm, hmm, -, hel⟩
       · exact ⟨[.l (P.cellsOf e) []], .cons (.nil _ _ _) .nil, rfl, fun us' h => ⟨[], us', rfl, by simp, by simp, h⟩⟩
       have hlm : len ≤ mm := by rw [hmm]; split <;> omega
       by_cases h0 : len = 0
       · subst h0
         exact ⟨[.l (P.cellsOf e) []], .cons (.nil _ _ _) .nil, rfl, fun us' h => ⟨[], us', rfl, by simp, by simp, h⟩⟩
       have each : ∀ i, ∃ q : List Value × List U, i < len → w.cells? 0 (a.add (i * P.cellsOf e)) (P.cellsOf e) = some q.1 ∧ RdL (zo0 w.heap) q.1 q.2 ∧ q.2.length = q.1.length ∧ ShU de q.2 := by
        intro i
        by_cases hi : i < len
        · obtain ⟨cs', h1, h2⟩ := hel i (by omega)
          obtain ⟨us, g1, g2, g3⟩ := zpj m n' e cs' _ de .nil hde h2
          exact ⟨(cs', us), fun _ => ⟨h1, g1, g2, by simpa using g3 [] rfl⟩⟩
        · exact ⟨([], []), fun h => absurd h hi⟩
       have each' : ∀ i, ∃ q : List Value × List U, i < len → w.cells? 0 (a.add (i * P.cellsOf e)) (P.cellsOf e) = some q.1 ∧ RdL (zo0 w.heap) q.1 q.2 ∧ q.2.length = q.1.length ∧ ShU de q.2 := each
       let Q : Nat → List Value × List U := fun i => Classical.choose (each' i)
       have hQ : ∀ i, i < len → w.cells? 0 (a.add (i * P.cellsOf e)) (P.cellsOf e) = some (Q i).1 ∧ RdL (zo0 w.heap) (Q i).1 (Q i).2 ∧ (Q i).2.length = (Q i).1.length ∧ ShU de (Q i).2 := fun i => Classical.choose_spec (each' i)
       obtain ⟨b, o, spot⟩ := a
       have hc0 : ∀ i j, i < len → j < P.cellsOf e → w.cell? (((⟨b, o, spot⟩ : Addr).add (i * P.cellsOf e)).add j) = (Q i).1[j]? ∧ j < (Q i).1.length := fun i j hi hj => by
        obtain ⟨h1, h2⟩ := zjc (hQ i hi).1
        exact ⟨h2 j hj, by omega⟩
       have hsp : spot = none := by
        cases spot with
        | none => rfl
        | some z =>
          exfalso
          obtain ⟨h1, h2⟩ := hc0 0 0 (by omega) (by omega)
          rw [zy0 h2] at h1
          have : w.cell? ⟨b, o, some z⟩ = some ((Q 0).1[0]) := by simpa [Addr.add] using h1
          unfold World.cell? at this
          split at this
          · simp at this
          · cases this
       subst hsp
       have hcell : ∀ i j, i < len → j < P.cellsOf e → hcell w.heap ⟨b, o + i * P.cellsOf e + j, none⟩ = (Q i).1[j]? := fun i j hi hj => by
        have h1 := (hc0 i j hi hj).1
        rw [zay, zay] at h1
        exact h1
       have hblk : ∃ arr T f, w.heap[b]? = some (.cells arr T f) := by
        have h1 := hcell 0 0 (by omega) (by omega)
        rw [zy0 (hc0 0 0 (by omega) (by omega)).2] at h1
        unfold YtacglpinmpncaaaGreat.hcell at h1
        cases hbb : w.heap[b]? with
        | none => simp [hbb] at h1
        | some ob =>
          cases ob <;> simp [hbb] at h1
          exact ⟨_, _, _, rfl⟩
       obtain ⟨arr, T, f, hbk⟩ := hblk
       have hlen : ((zzh len).map fun i => (Q i).2).length = len := by simp
       have hrow : ∀ {i : Nat} {r : List U}, ((zzh len).map fun i => (Q i).2)[i]? = some r → i < len ∧ r = (Q i).2 := fun {i r} hr => by
        rw [zy5] at hr
        cases hri : (zzh len)[i]? with
        | none => rw [hri] at hr; cases hr
        | some k =>
          rw [hri] at hr
          obtain ⟨h1, h2⟩ := zyz.1 hri
          simp at h1 h2 hr
          subst h2
          exact ⟨h1, hr.symm⟩
       have hr : Rd (zo0 w.heap) (.slice (some ⟨b, o, none⟩) len cap) (.l (P.cellsOf e) ((zzh len).map fun i => (Q i).2)) := by
        have := Rd.row (D := zo0 w.heap) b o cap arr T f ((zzh len).map fun i => (Q i).2) (P.cellsOf e) (fun i j => (Q i).1.getD j undef) hbk (by rw [hlen]; exact hl)
         (fun r hr => by
          obtain ⟨i, hi, rfl⟩ := zzu.1 hr
          have hi' : i < len := by simpa using hi
          rw [(hQ i hi').2.2.1, (zjc (hQ i hi').1).1])
         (fun i j r u hi hj => by
          obtain ⟨h1, rfl⟩ := hrow hi
          have hj' : j < P.cellsOf e := by
           have := (zyz.1 hj).1
           rwa [(hQ i h1).2.2.1, (zjc (hQ i h1).1).1] at this
          have := hcell i j h1 hj'
          rw [zaz hbk] at this
          rw [this]
          simp [(hc0 i j h1 hj').2])
         (fun i j r u hi hj => by
          obtain ⟨h1, rfl⟩ := hrow hi
          obtain ⟨v, hv, hrd⟩ := (hQ i h1).2.1.get hj
          simp only [z07, hv, zz8]; exact hrd)
        rwa [hlen] at this
       refine ⟨[.l (P.cellsOf e) _], .cons hr .nil, rfl, fun us' h => ⟨_, us', rfl, by rw [hlen]; omega, fun row hrow' => ?_, h⟩⟩
       obtain ⟨i, hi, rfl⟩ := zzu.1 hrow'
       exact (hQ i (by simpa using hi)).2.2.2
     | struct fs =>
       simp only at hd
       split at hd
       · rename_i hct
         unfold DataW.trodStep at hx
         rw [hu] at hx
         simp only at hx
         split at hx
         · rename_i hl
           simp only [z0e] at hx
           obtain ⟨xs, hxs, -⟩ := hx
           obtain ⟨h1, h2⟩ := zlw hxs
           rw [← hl] at hct
           have hfl := drops fs.toList 0 hct (zzv _)
           rw [z09] at hfl
           have := all_rd (R := RdL (zo0 w.heap)) (fun a b => a.append b) .nil (g := dsOf P m) (r := DataW.trod enc P w 0 sp held n) (fun t cs x d rest a b => ih t cs x d rest a b) (fs.toList.map (·.type)) (fs.toList.map fun f => (cs.drop f.offset).take (P.cellsOf f.type)) d rest hd (by simp) fun i t' cs' a b => by
            rw [zy5] at a b
            cases hf : fs.toList[i]? with
            | none => rw [hf] at a; cases a
            | some f =>
              rw [hf] at a b
              cases a; cases b
              obtain ⟨y, hy, -⟩ := h2 i f hf
              exact ⟨y, hy⟩
           rw [hfl] at this
           exact this
         · cases hx
       · cases hd
     | _ => cases hd
end
section
variable {H : Type} {enc : TypeId × Value → H} {P : Program} {W : World} {sp : Nat → Bool} {held : Bool}
theorem zny {t : TypeId} {ds : Ds} {d : DataW H} {ps : List MemPlace} (hd : dsOf P 12 t .nil = some ds) (h : DataW.Trod enc P W 0 sp held t v d ps) : ∃ us, RdL (zo0 W.heap) v.cells.toList us ∧ ShU ds us := by
 obtain ⟨fuel, hf⟩ := h
 obtain ⟨us, h1, -, h3⟩ := zpj 12 fuel t _ _ ds .nil hd hf
 exact ⟨us, h1, by simpa using h3 [] rfl⟩
end
theorem St.all (h : zaf) : St (zo0 h) [] h := ⟨by simp [ids], by simp, fun b o hb => ⟨hb, by simp [ids]⟩⟩
theorem St.kept {h' : zaf} {C : List zac} {D : Fz} (l : Le (zo0 h) D) (S : St D C h') : Keep h h' where
 size := by
  rcases z0o h'.size h.size with hlt | hge
  · exfalso
    have h1 := (S.fz h'.size _ (l _ _ (show zo0 h h'.size = some h[h'.size] by simp [zo0, hlt]))).1
    have := zbv h1; omega
  · exact hge
 blk b hb _ := by
  have h1 := (S.fz b _ (l _ _ (show zo0 h b = some h[b] by simp [zo0, hb]))).1
  rw [h1]; simp [hb]
variable {m : MV}
section
open Go.MapKept
def zum : MV → MK → Option Value
 | [], _ => none
 | p :: m, k => if p.1 = k then some p.2 else zum m k
def zul : MV → MK → Value → MV
 | [], k, v => [(k, v)]
 | p :: m, k, v => if p.1 = k then (k, v) :: m else p :: zul m k v
def ztv : MV → MK → MV
 | [], _ => []
 | p :: m, k => if p.1 = k then m else p :: ztv m k
theorem mIdx_get (m : MV) (k : MK) : ∀ i, (zn4 m k i).map (·.2) = zum m k := by
 induction m with
 | nil => intro i; rfl
 | cons p m ih => intro i; simp only [zn4, zum]; split; rfl; exact ih _
theorem zn3 {k : MK} : ∀ {i}, zn4 m k i = none → (∀ p ∈ m, p.1 ≠ k) ∧ ∀ v, zul m k v = m ++ [(k, v)] := by
 induction m with
 | nil => intro i _; exact ⟨by simp, fun v => rfl⟩
 | cons p m ih =>
   intro i h
   simp only [zn4] at h
   split at h
   · cases h
   · rename_i hk
     obtain ⟨h1, h2⟩ := ih h
     refine ⟨fun q hq => ?_, fun v => ?_⟩
     · rcases zy3.1 hq with rfl | hq
       · exact hk
       · exact h1 q hq
     · simp only [zul, if_neg hk, h2 v, zz6]
theorem zn2 {k : MK} : ∀ {i j : Nat} {v : Value}, zn4 m k i = some (j, v) → ∃ n, j = i + n ∧ m[n]? = some (k, v) ∧ (∀ x, zul m k x = m.set n (k, x)) ∧ ztv m k = m.eraseIdx n := by
 induction m with
 | nil => intro i j v h; simp [zn4] at h
 | cons p m ih =>
   intro i j v h
   simp only [zn4] at h
   split at h
   · rename_i hk
     simp only [Option.some.injEq, Prod.mk.injEq] at h
     obtain ⟨rfl, rfl⟩ := h
     obtain ⟨pk, pv⟩ := p
     simp only at hk
     subst hk
     exact ⟨0, rfl, rfl, fun x => by simp [zul], by simp [ztv]⟩
   · rename_i hk
     obtain ⟨n, h1, h2, h3, h4⟩ := ih h
     exact ⟨n + 1, by omega, by simpa using h2, fun x => by simp only [zul, if_neg hk, h3 x, z2a], by simp only [ztv, if_neg hk, h4, z3c]⟩
theorem zr9 {kt : KT} {k : MK} (hk : kt.has k = true) (hh : ∀ p ∈ m, kt.has p.1 = true) : ∀ p ∈ zul m k v, kt.has p.1 = true := by
 induction m with
 | nil => intro p hp; simp [zul] at hp; subst hp; exact hk
 | cons q m ih =>
   intro p hp
   simp only [zul] at hp
   split at hp
   · rcases zy3.1 hp with rfl | hp
     · exact hk
     · exact hh p (by simp [hp])
   · rcases zy3.1 hp with rfl | hp
     · exact hh _ (by simp)
     · exact ih (fun r hr => hh r (by simp [hr])) p hp
theorem mDel_sub (m : MV) (k : MK) : (ztv m k).Sublist m := by
 induction m with
 | nil => exact .refl _
 | cons q m ih =>
   simp only [ztv]
   split
   · exact List.sublist_cons_self _ _
   · exact ih.cons_cons _
structure MpI (kt : KT) (es : Array MapEntry) (clk : Nat) (m : MV) : Prop where
 ent : zn6 es.toList m
 st : Stamped es clk
 has : ∀ p ∈ m, kt.has p.1 = true
theorem MpI.nil (kt : KT) : MpI kt #[] 0 [] := ⟨rfl, stamped_empty 0, by simp⟩
theorem MpI.keyOf {kt : KT} {es : Array MapEntry} {clk : Nat} (I : MpI kt es clk m) {e : MapEntry} (he : e ∈ es.toList) : ∃ p ∈ m, e.key = mkV p.1 ∧ e.val = p.2 := by
 obtain ⟨i, hi⟩ := zz4.1 he
 obtain ⟨p, hp, h1, h2⟩ := zsa I.ent hi
 exact ⟨p, zy4 hp, h1, h2⟩
section
variable {P : Program} {w : World} {T K E : TypeId} {kt : KT} {b : Nat} {es : Array MapEntry} {clk : Nat} {m : MV} {k : MK}
theorem run_look (hT : P.underlying T = some (.map K E)) (hk : zl0 P K = some kt) {i : TypeInfo} (hi : P.info? E = some i) (hz : i.zero = some z) (hb : w.heap[b]? = some (.map es clk)) (I : MpI kt es clk m) (hx : kt.has k = true) (ok : Bool) :
 (Instr.lookup T (.map (some b)) (mkV k) ok).run P w = .ok (if ok then .tuple #[(zum m k).getD z, .bool (zum m k).isSome] else (zum m k).getD z) w := by
 have hg := mIdx_get m k 0
 have hzr : (zeroValue E).run P w = .ok z w := by
  simp only [zeroValue, Sem.run_bind, run_typeInfo w hi, zza, hz, Sem.run_pure]
 simp only [Instr.lookup, Sem.run_bind, run_underlying hT, zza, MapKept.run_getObj_map hb, Sem.run_pure, zb0 hk hx, zdd hk hx I.ent I.has]
 cases hf : zn4 m k 0 with
 | none =>
   rw [hf] at hg
   simp only [Option.map_none] at hg
   rw [← hg]
   simp only [Sem.run_bind, hzr, zza, Sem.run_pure]
   cases ok <;> rfl
 | some p =>
   rw [hf] at hg
   simp only [z0g] at hg
   rw [← hg]
   simp only [Sem.run_bind, zza, Sem.run_pure]
   cases ok <;> rfl
theorem zvr (hT : P.underlying T = some (.map K E)) (hk : zl0 P K = some kt) {i : TypeInfo} (hi : P.info? E = some i) (hz : i.zero = some z) (hx : kt.has k = true) (ok : Bool) :
 (Instr.lookup T (.map none) (mkV k) ok).run P w = .ok (if ok then .tuple #[z, .bool false] else z) w := by
 have hzr : (zeroValue E).run P w = .ok z w := by
  simp only [zeroValue, Sem.run_bind, run_typeInfo w hi, zza, hz, Sem.run_pure]
 have hf := zdd (P := P) (w := w) hk hx (es := []) (m := []) rfl (by simp)
 simp only [Instr.lookup, Sem.run_bind, run_underlying hT, zza, Sem.run_pure, zb0 hk hx, hf, zn4, hzr]
theorem run_upd (hT : P.underlying T = some (.map K E)) (hk : zl0 P K = some kt) (hb : w.heap[b]? = some (.map es clk)) (I : MpI kt es clk m) (hx : kt.has k = true) (v : Value) :
 ∃ es' clk', (Instr.mapUpdate T (.map (some b)) (mkV k) v).run P w = .ok () { w with heap := w.heap.setIfInBounds b (.map es' clk') } ∧ MpI kt es' clk' (zul m k v) := by
 cases hf : zn4 m k 0 with
 | none =>
   obtain ⟨h1, h2⟩ := zn3 hf
   refine ⟨es.push ⟨mkV k, v, clk⟩, clk + 1, ?_, ?_, stamped_push I.st ?_, zr9 hx I.has⟩
   · simp [Instr.mapUpdate, run_underlying hT, MapKept.run_getObj_map hb, zb0 hk hx, zdd hk hx I.ent I.has, hf, MapKept.run_setObj_map _ hb, Result.andThen]
   · unfold zn6
     rw [h2 v]
     have := I.ent
     unfold zn6 at this
     simp [this]
   · intro e he hke
     obtain ⟨p, hp, h3, -⟩ := I.keyOf he
     exact h1 p hp (mkV_inj (h3.symm.trans hke))
 | some q =>
   obtain ⟨j, u⟩ := q
   obtain ⟨n, h1, h2, h3, -⟩ := zn2 hf
   rw [zze] at h1
   subst h1
   have hjl : j < es.toList.length := by rw [zhl I.ent]; exact (zyz.1 h2).1
   obtain ⟨p, hp, hpk, -⟩ := zsa I.ent (zy0 hjl)
   rw [h2] at hp
   cases hp
   have hj : es[j]? = some es.toList[j] := by rw [← z3a, zy0 hjl]
   have hkeyf : ∀ e ∈ es.toList, es[j]? = some e → ({ e with key := mkV k, val := v } : MapEntry).key = e.key := fun e _ he => by
    rw [hj] at he; cases he; exact hpk.symm
   have hmod : (es.modify j fun e => { e with key := mkV k, val := v }).toList = es.toList.modify j fun e => { e with key := mkV k, val := v } := by simp
   refine ⟨es.modify j fun e => { e with key := mkV k, val := v }, clk, ?_, ?_, stamped_modify I.st _ _ (fun _ _ => rfl) hkeyf, zr9 hx I.has⟩
   · have hgk : ((es[j]?).map (·.key)).getD (mkV k) = mkV k := by rw [hj]; exact hpk
     simp only [Instr.mapUpdate, Sem.run_bind, run_underlying hT, MapKept.run_getObj_map hb, zb0 hk hx, zdd hk hx I.ent I.has, hf, hgk, zvo, MapKept.run_setObj_map _ hb, zza]
   · unfold zn6
     rw [hmod, h3 v]
     apply z1a
     intro i
     have h4 := congrArg (fun l => l[i]?) I.ent
     simp only [zy5] at h4
     simp only [zy5, List.getElem?_modify, List.getElem?_set]
     by_cases hij : j = i
     · subst hij
       simp only [if_true]
       rw [zy0 hjl]
       simp [show j < m.length by rw [← zhl I.ent]; exact hjl]
     · simp only [hij, if_false]
       cases hee : es.toList[i]? with
       | none => rw [hee] at h4; simpa using h4
       | some e => rw [hee] at h4; simpa using h4
theorem run_del {ty : TypeId} (hT : P.underlying T = some (.map K E)) (hk : zl0 P K = some kt) (hb : w.heap[b]? = some (.map es clk)) (I : MpI kt es clk m) (hx : kt.has k = true) :
 ∃ es', (Builtin.delete_ #[T, K] ty #[.map (some b), mkV k]).run P w = .ok (.tuple #[]) { w with heap := w.heap.setIfInBounds b (.map es' clk) } ∧ MpI kt es' clk (ztv m k) := by
 have hh : ∀ p ∈ ztv m k, kt.has p.1 = true := fun p hp => I.has p ((mDel_sub m k).subset hp)
 cases hf : zn4 m k 0 with
 | none =>
   obtain ⟨h1, h2⟩ := zn3 hf
   have h3 : ztv m k = m := by
    have : ∀ l : MV, (∀ p ∈ l, p.1 ≠ k) → ztv l k = l := by
     intro l
     induction l with
     | nil => intro _; rfl
     | cons p l ih => intro h; simp only [ztv, if_neg (h p (by simp)), ih fun q hq => h q (by simp [hq])]
    exact this m h1
   refine ⟨es, ?_, by rw [h3]; exact I⟩
   simp [Builtin.delete_, run_underlying hT, MapKept.run_getObj_map hb, zb0 hk hx, zdd hk hx I.ent I.has, hf, MapKept.run_setObj_map _ hb, Result.andThen]
 | some q =>
   obtain ⟨j, u⟩ := q
   obtain ⟨n, h1, h2, -, h4⟩ := zn2 hf
   rw [zze] at h1
   subst h1
   have hjl : j < es.toList.length := by rw [zhl I.ent]; exact (zyz.1 h2).1
   have hjs : j < es.size := by simpa using hjl
   have hsub : (es.eraseIdxIfInBounds j).toList = es.toList.eraseIdx j := by
    unfold Array.eraseIdxIfInBounds
    rw [dif_pos hjs]
    simp
   refine ⟨es.eraseIdxIfInBounds j, ?_, ?_, stamped_erase I.st j, hh⟩
   · simp [Builtin.delete_, run_underlying hT, MapKept.run_getObj_map hb, zb0 hk hx, zdd hk hx I.ent I.has, hf, MapKept.run_setObj_map _ hb, Result.andThen]
   · unfold zn6
     rw [hsub, h4]
     have e := I.ent
     unfold zn6 at e
     rw [Go.ChangeMaps.map_eraseIdx, e, ← Go.ChangeMaps.map_eraseIdx]
end
end
inductive V where
 | u (x : U)
 | r (b o : Nat)
 | e (b sz : Nat) (k : Int) (o : Nat)
 | g (b o w : Nat) (k : Int)
 | q (c : List U) (o : Nat)
 | w (b : Nat)
 | c (sz : Nat) (rows : List (List U))
 | m (b : Nat)
 | nm
 | nl (s : Nat)
 | f (g : FuncId) (a c : List V)
 | a (l : List V)
 | t (l : List V)
 | n (k : IntKind) (w : Nat) (l : List Int)
 | z
 | y (b : Nat)
 /-- Of an own row's n elements from l on; c: there is room for no more. -/
 | v (b sz l n : Nat) (c : Bool)
 /-- n elements that stand in a block of cells, from o on. -/
 | sl (b o n : Nat)
abbrev V.i (n : Int) : V := .u (.i .i64 n)
abbrev V.l (s : Nat) (x : List (List U)) : V := .u (.l s x)
structure Bd where
 T : TypeId
 E : TypeId
 l : List Nat
abbrev byteC (l : List Nat) : List Value := l.map fun n => Value.int .u8 (.ofNat n)
def Bd.f (x : Bd) (_ : Fz) (b : Nat) (ch : zac) : Prop :=
 (∀ n ∈ x.l, n < 256) ∧ ∃ p, (p = Value.pointer none ∨ p = .pointer (some ⟨b, 0, none⟩)) ∧
  ((x.l = [] ∧ ch = [(b, .cells #[p, .slice none 0 0] x.T (0, 0))]) ∨
   ∃ (g c : Nat) (ps : List Value), x.l.length ≤ c ∧ c ≤ maxLen ∧ (byteC x.l).length + ps.length = c ∧
     ch = [(b, .cells #[p, .slice (some ⟨g, 0, none⟩) x.l.length c] x.T (0, 0)), (g, .cells (byteC x.l ++ ps).toArray x.E (0, 0))])
structure Ob where
 f : Fz → Nat → zac → Prop
 mono : ∀ {D D' : Fz} {b : Nat} {c : zac}, f D b c → Le D D' → f D' b c
 d : Option Bd := none
 hd : ∀ {x : Bd}, d = some x → f = x.f := by intro x h; cases h
def Ob.bd (x : Bd) : Ob where
 f := x.f
 mono := fun h _ => h
 d := some x
 hd := by intro y h; cases h; rfl
inductive AB where
 | c (l : List V)
 | w (E sz : Nat) (rows : List (List U))
 | o (I : Ob)
 | p (kt : KT) (sz : Nat) (ag : Bool) (rows : List (MK × List U))
 | tk
 | x
 /-- n elements of a row of one's own whose cells are not only data. -/
 | cw (E sz n : Nat) (l : List V)
abbrev Mem := List AB
def zhv : List V → Nat → V
 | [], _ => .z
 | v :: _, 0 => v
 | _ :: l, n + 1 => zhv l n
def zph : List V → Nat → V → List V
 | [], _, _ => []
 | _ :: l, 0, v => v :: l
 | x :: l, n + 1, v => x :: zph l n v
def vput (t : List V) (d : Option Tmp) (v : V) : List V :=
 match d with
 | some i => zph t i v
 | none => t
def mg : Mem → Nat → AB
 | [], _ => .x
 | a :: _, 0 => a
 | _ :: l, n + 1 => mg l n
def ms : Mem → Nat → AB → Mem
 | [], _, _ => []
 | _ :: l, 0, v => v :: l
 | y :: l, n + 1, v => y :: ms l n v
def ug : List U → Nat → Option U
 | [], _ => none
 | v :: _, 0 => some v
 | _ :: l, n + 1 => ug l n
def zp5 : Value → V
 | .int k n => .u (.i k n)
 | .bool c => .u (.b c)
 | .string s => .u (.s s)
 | .pointer none => .u (.p none)
 | .slice none 0 0 => .nl 0
 | .map none => .nm
 | .func (.func g) ⟨[]⟩ ⟨[]⟩ => .f g [] []
 | _ => .z
def ofV : Value → V
 | .agg cs => .a (cs.toList.map zp5)
 | v => zp5 v
def evS (t : List V) : Operand → V
 | .tmp i => zhv t i
 | .const v => ofV v
 | .func f => .f f [] []
 | .global _ => .z
def zot : V → Option Value
 | .u (.i k n) => some (.int k n)
 | .u (.b c) => some (.bool c)
 | .u (.s s) => some (.string s)
 | _ => none
def concL : List V → Option (List Value)
 | [] => some []
 | v :: l => match zot v, concL l with
   | some x, some xs => some (x :: xs)
   | _, _ => none
def conc : V → Option Value
 | .a l => match concL l with
   | some xs => some (.agg xs.toArray)
   | none => none
 | v => zot v
def wd : V → Nat
 | .n _ w _ => w
 | _ => 1
def ze1 : Nat → List V → Option (List V)
 | 0, l => some l
 | _ + 1, [] => none
 | o + 1, x :: l => cond (zzc (wd x) (o + 1) && !zyw (wd x) 0) (ze1 (o + 1 - wd x) l) none
termination_by structural _ l => l
def zjr : Nat → List V → Option (List V)
 | 0, _ => some []
 | _ + 1, [] => none
 | n + 1, x :: l => cond (zzc (wd x) (n + 1) && !zyw (wd x) 0) (match zjr (n + 1 - wd x) l with | some r => some (x :: r) | none => none) none
termination_by structural _ l => l
def wds : List V → Nat
 | [] => 0
 | x :: l => wd x + wds l
def zuj (new : List V) : Nat → List V → Option (List V)
 | 0, l => match ze1 (wds new) l with | some r => some (new ++ r) | none => none
 | _ + 1, [] => none
 | o + 1, x :: l => cond (zzc (wd x) (o + 1) && !zyw (wd x) 0) (match zuj new (o + 1 - wd x) l with | some r => some (x :: r) | none => none) none
termination_by structural _ l => l
def zko : Nat → List V → Option (List Int × List V)
 | 0, l => some ([], l)
 | n + 1, .u (.i .i64 x) :: l => match zko n l with | some (xs, r) => some (x :: xs, r) | none => none
 | _ + 1, _ => none
def wl (P : Program) : Nat → TypeId → List Nat
 | 0, _ => [1]
 | d + 1, T => match P.underlying T with
   | some (.struct fs) => fs.toList.flatMap fun f => wl P d f.type
   | some (.array n e) => match P.underlying e with
     | some (.int .i64) => cond (zzc 9 n) [n] (zzi n 1)
     | _ => (zzi n (wl P d e)).flatten
   | _ => [1]
def zt2 : List Nat → List V → List V
 | [], l => l
 | _ :: _, [] => []
 | w :: ws, x :: l => cond (zyw w 1) (x :: zt2 ws l) (match x with
   | .n k w' xs => .n k w' xs :: zt2 ws l
   | x => match zko w (x :: l) with
     | some (xs, r) => .n .i64 w xs :: zt2 ws r
     | none => x :: l)
def zgo (P : Program) : Nat → TypeId → List Nat
 | 0, _ => [0]
 | d + 1, T => match P.underlying T with
   | some (.struct fs) => fs.toList.flatMap fun f => zgo P d f.type
   | some (.array n e) => (zzi n (zgo P d e)).flatten
   | some (.slice e) => [zao P e]
   | _ => [0]
def fixN : List Nat → List V → List V
 | s :: ss, .nl _ :: l => .nl s :: fixN ss l
 | ss, .n k w x :: l => .n k w x :: fixN (ss.drop w) l
 | _ :: ss, x :: l => x :: fixN ss l
 | [], l => l
 | _, [] => []
termination_by structural _ l => l
def zjv (P : Program) (T : TypeId) (l : List V) : List V := zt2 (wl P 9 T) (fixN (zgo P 9 T) l)
def zdf (P : Program) (T : TypeId) : V → V
 | .a l => .a (zjv P T l)
 | .nl s' => match zgo P 9 T with
   | s :: _ => .nl s
   | [] => .nl s'
 | v => v
def asD : V → V
 | .nl s => .u (.l s [])
 | v => v
def datL : List V → List V
 | [] => []
 | v :: l => asD v :: datL l
def datV : V → V
 | .a l => .a (datL l)
 | v => asD v
def datA : AB → AB
 | .c l => .c (datL l)
 | a => a
def shOk : Value × Nat → V → Bool
 | (.int k _, _), .u (.i k' _) => zyw (zax k) (zax k')
 | (.bool _, _), .u (.b _) => true
 | (.string _, _), .u (.s _) => true
 | (.slice .., s), .u (.l s' _) => zyw s s'
 | (.slice .., _), .w _ => true
 | (.slice .., s), .c s' _ => zyw s s'
 | (.slice .., s), .nl s' => zyw s s'
 | (.slice .., s), .v _ s' _ _ _ => zyw s s'
 | (.slice .., _), .sl .. => true
 | (.pointer _, _), .u (.p _) => true
 | (.pointer _, _), .r .. => true
 | (.pointer _, _), .e .. => true
 | (.pointer _, _), .g .. => true
 | (.pointer _, _), .q .. => true
 | (.map _, _), .m _ => true
 | (.map _, _), .nm => true
 | (.nilFunc, _), .f .. => true
 | _, _ => false
def isI64 : Value × Nat → Bool
 | (.int .i64 _, _) => true
 | _ => false
def shL : List (Value × Nat) → List V → Bool
 | [], [] => true
 | zs, .n k w _ :: l => zyw (zax k) 3 && zzc w zs.length && (zs.take w).all isI64 && shL (zs.drop w) l
 | z :: zs, v :: l => shOk z v && shL zs l
 | _, _ => false
termination_by structural _ l => l
inductive LayS where
 | one (z : Value × Nat)
 | many (zs : List (Value × Nat))
def ztx (P : Program) (T : TypeId) : Option LayS :=
 match zc9 P T, zgo P 9 T with
 | some (.one z), s :: _ => some (.one (z, s))
 | some (.many zs), ss => cond (zyw zs.length ss.length) (some (.many (zs.zip ss))) none
 | _, _ => none
def elL {α : Type} (l : List α) (k : Int) (K : α → Prop) : Prop :=
 match k with
 | .ofNat i => match l[i]? with | some r => K r | none => False
 | .negSucc _ => False
def oP {α : Type} (o : Option α) (K : α → Prop) : Prop :=
 match o with
 | some c => K c
 | none => False
def dI (k : IntKind) (o : Option U) (K : Int → Prop) : Prop :=
 match o with
 | some (.i k' n) => zxc k k' (K n)
 | _ => False
def dB (o : Option U) (K : Bool → Prop) : Prop :=
 match o with
 | some (.b c) => K c
 | _ => False
def dS (o : Option U) (K : ByteArray → Prop) : Prop :=
 match o with
 | some (.s c) => K c
 | _ => False
def dL (s : Nat) (o : Option U) (K : List (List U) → Prop) : Prop :=
 match o with
 | some (.l s' c) => cond (zyw s s') (K c) False
 | _ => False
def dP (o : Option U) (K : Option (List U) → Prop) : Prop :=
 match o with
 | some (.p c) => K c
 | _ => False
def dU (z : Value × Nat) (o : Option U) (K : U → Prop) : Prop :=
 match z.1 with
 | .int k _ => dI k o fun n => K (.i k n)
 | .bool _ => dB o fun c => K (.b c)
 | .string _ => dS o fun c => K (.s c)
 | .slice .. => dL z.2 o fun c => K (.l z.2 c)
 | .pointer _ => dP o fun c => K (.p c)
 | _ => False
def dUs : List (Value × Nat) → List U → Nat → (List U → Prop) → Prop
 | [], _, _, K => K []
 | z :: zs, r, o, K => dU z (ug r o) fun u => dUs zs r (o + 1) fun us => K (u :: us)
def zan (a b : List (List U)) : Prop := a.length + b.length ≤ 1000000
def zs6 : Value → V
 | .int k n => .u (.i k n)
 | .bool c => .u (.b c)
 | .string s => .u (.s s)
 | _ => .z
def ptrAdd (x : V) (n : Nat) (K : V → Prop) : Prop :=
 match x with
 | .r b o => K (.r b (addO o n))
 | .e b sz k o => K (.e b sz k (addO o n))
 | .q c o => K (.q c (addO o n))
 | .u (.p p) => oP p fun c => K (.q c n)
 | _ => False
def zoc : V → Bool
 | .r .. => true
 | .e .. => true
 | .g .. => true
 | .q .. => true
 | _ => false
def binS (P : Program) (op : BinOp) (T : TypeId) (x y : V) (K : V → Prop) : Prop :=
 match conc x, conc y with
 | some a, some b => zue P op T a b fun v => K (zs6 v)
 | _, _ => match y with
   | .u (.p none) => match P.underlying T with
     | some (.pointer _) => (match x with
       | .u (.p p) => zeb op p.isNone fun v => K (zs6 v)
       | x => cond (zoc x) (zeb op false fun v => K (zs6 v)) False)
     | _ => False
   | .nm => match P.underlying T with
     | some (.map ..) => (match x with
       | .m _ => zeb op false fun v => K (zs6 v)
       | .nm => zeb op true fun v => K (zs6 v)
       | _ => False)
     | _ => False
   | _ => False
def pickS (c a b : V) (K : V → Prop) : Prop :=
 match c with
 | .u (.b c) => match a, b with
   | .u (.b x), .u (.b y) => K (.u (.b (cond c x y)))
   | _, _ => cond c (K a) (K b)
 | _ => False
def lenS (m : Mem) : V → (Int → Prop) → Prop
 | .u (.s x), K => K x.size
 | .u (.l _ r), K => K r.length
 | .c _ r, K => K r.length
 | .nl _, K => K 0
 | .w b, K => match mg m b with
   | .w _ _ r => K r.length
   | .cw _ _ n _ => K n
   | _ => False
 | .m b, K => match mg m b with
   | .p _ _ _ r => K r.length
   | _ => False
 | .nm, K => K 0
 | .v _ _ _ n _, K => K n
 | .sl _ _ n, K => K n
 | _, _ => False
def okLen : Option TypeDesc → V → Bool
 | some .string, .u (.s _) => true
 | some (.slice _), .u (.l _ _) => true
 | some (.slice _), .c _ _ => true
 | some (.slice _), .nl _ => true
 | some (.slice _), .w _ => true
 | some (.slice _), .v .. => true
 | some (.slice _), .sl .. => true
 | some (.map ..), .m _ => true
 | some (.map ..), .nm => true
 | _, _ => false
def zs3 (t : List V) (x : Option Operand) (d : Int) : Option Int :=
 match x with
 | none => some d
 | some x => match evS t x with
   | .u (.i _ i) => some i
   | _ => none
def zox : List V → Option (List U)
 | [] => some []
 | .u x :: l => match zox l with | some us => some (x :: us) | none => none
 | .nl s :: l => match zox l with | some us => some (.l s [] :: us) | none => none
 | _ :: _ => none
def zub : Nat → Nat → List U → List (List U)
 | 0, _, _ => []
 | n + 1, sz, l => l.take sz :: zub n sz (l.drop sz)
def oneA (P : Program) (e : TypeId) (us : List V) : V :=
 match ztx P e, us with
 | some (.one _), v :: _ => v
 | _, us => .a us
def zyl (t : List V) : List Operand → Option (List Value)
 | [] => some []
 | x :: l => match zot (evS t x), zyl t l with
   | some v, some vs => some (v :: vs)
   | _, _ => none
def zkt : V → Option (List V)
 | .a l => some l
 | .z => none
 | .n .. => none
 | .t _ => none
 | v => some [v]
def zhw (P : Program) (T : TypeId) (v : V) : Option (List V) := zkt (zdf P T v)
def zt7 (place : Nat → Option (Nat × Nat)) : List V → List (Nat × V) → Option (List V)
 | l, [] => some l
 | l, (i, v) :: rest => match place i, zkt v with
   | some (o, s), some xs => cond (zyw (wds xs) s) (match zuj xs o l with | some l' => zt7 place l' rest | none => none) none
   | _, _ => none
def zb9 (P : Program) (T : TypeId) : Option (List (Value × Nat)) :=
 match ztx P T with
 | some (.one z) => some [z]
 | some (.many zs) => some zs
 | none => none
def zly (z : Value × Nat) (a : V) (m : Mem) (K : V → Prop) : Prop :=
 match a with
 | .r b o => match mg m b with
   | .c cells => match ze1 o cells with
     | some (v :: _) => cond (shOk z v) (K v) False
     | _ => False
   | _ => False
 | .g b o w k => match mg m b with
   | .c cells => match ze1 o cells with
     | some (.n k' w' l :: _) => cond (zyw w w' && zyw (zax k') 3 && isI64 z) (elL l k fun n => K (.u (.i .i64 n))) False
     | _ => False
   | _ => False
 | .e b sz k o => match mg m b with
   | .w _ sz' rows => cond (zyw sz sz') (elL rows k fun r => dU z (ug r o) fun u => K (.u u)) False
   | .cw _ sz' _ cells => cond (zyw sz sz') (match ze1 (k.toNat * sz + o) cells with
     | some (v :: _) => cond (shOk z v) (K v) False
     | _ => False) False
   | _ => False
 | .q c o => dU z (ug c o) fun u => K (.u u)
 | .u (.p p) => oP p fun c => dU z (ug c 0) fun u => K (.u u)
 | _ => False
def zn8 (zs : List (Value × Nat)) (a : V) (m : Mem) (K : V → Prop) : Prop :=
 match a with
 | .r b o => match mg m b with
   | .c cells => match ze1 o cells with
     | some l => match zjr zs.length l with
       | some vs => cond (shL zs vs) (K (.a vs)) False
       | none => False
     | none => False
   | _ => False
 | .e b sz k o => match mg m b with
   | .w _ sz' rows => cond (zyw sz sz') (elL rows k fun r => dUs zs r o fun us => K (.a (us.map .u))) False
   | .cw _ sz' _ cells => cond (zyw sz sz') (match ze1 (k.toNat * sz + o) cells with
     | some l => match zjr zs.length l with
       | some vs => cond (shL zs vs) (K (.a vs)) False
       | none => False
     | none => False) False
   | _ => False
 | .q c o => dUs zs c o fun us => K (.a (us.map .u))
 | .u (.p p) => oP p fun c => dUs zs c 0 fun us => K (.a (us.map .u))
 | _ => False
def sLoad (P : Program) (T : TypeId) (a : V) (m : Mem) (K : V → Prop) : Prop :=
 match ztx P T with
 | some (.one z) => zly z a m K
 | some (.many zs) => zn8 zs a m K
 | none => False
def eqI : List Int → List Int → Bool
 | [], [] => true
 | a :: l, b :: r => (a == b) && eqI l r
 | _, _ => false
def zt0 : List V → Option (List Int)
 | [] => some []
 | .u (.i .i64 n) :: l => match zt0 l with | some r => some (n :: r) | none => none
 | .n .i64 _ xs :: l => match zt0 l with | some r => some (xs ++ r) | none => none
 | _ :: _ => none
def arrN (P : Program) (T : TypeId) : Option Nat :=
 match P.underlying T with
 | some (.array ..) => (match zl0 P T with
   | some (.a n) => some n
   | _ => none)
 | some (.struct fs) => cond (flat P fs.toList 0 || isI P T) none (numT P 6 T)
 | _ => none
def arrE (P : Program) (T : TypeId) (x y : V) : Option Bool :=
 match arrN P T, x, y with
 | some n, .a xs, .a ys => match zt0 xs, zt0 ys with
   | some a, some b => cond (zyw (wds xs) n && zyw (wds ys) n && !P.eqGuardType P.depth T) (some (eqI a b)) none
   | _, _ => none
 | _, _, _ => none
def idxK (i : Int) (n : Nat) (K : Nat → Prop) : Prop :=
 match i with
 | .ofNat j => cond (zzc (j + 1) n) (K j) False
 | .negSucc _ => False
def zbl : List (MK × List U) → MK → Option (List U)
 | [], _ => none
 | p :: m, k => if p.1 = k then some p.2 else zbl m k
def za1 : List (MK × List U) → MK → List U → List (MK × List U)
 | [], k, v => [(k, v)]
 | p :: m, k, v => if p.1 = k then (k, v) :: m else p :: za1 m k v
def zdj : List (MK × List U) → MK → List (MK × List U)
 | [], _ => []
 | p :: m, k => if p.1 = k then m else p :: zdj m k
def mO {α : Type} (o : Option α) (A : α → Prop) (B : Prop) : Prop :=
 match o with
 | some r => A r
 | none => B
def ktEq : KT → KT → Bool
 | .n, .n => true
 | .s, .s => true
 | .a x, .a y => zyw x y
 | _, _ => false
def mkIs : List V → Option (List Int)
 | [] => some []
 | .u (.i .i64 n) :: l => match mkIs l with | some r => some (n :: r) | none => none
 | _ :: _ => none
def mkOf : V → Option MK
 | .u (.i .i64 n) => some (.n n)
 | .u (.s b) => some (.s b)
 | .a l => match mkIs l with | some r => some (.a r) | none => none
 | _ => none
def isAg (P : Program) (T : TypeId) : Bool :=
 match ztx P T with
 | some (.many _) => true
 | _ => false
def mapT (P : Program) (T : TypeId) : Option (KT × List (Value × Nat) × TypeId × V) :=
 match P.underlying T with
 | some (.map K E) => match zl0 P K, zb9 P E, (P.info? E).bind (·.zero) with
   | some kt, some zs, some zv => some (kt, zs, E, zdf P E (ofV zv))
   | _, _, _ => none
 | _ => none
def lookR (ok : Bool) (v : V) (b : Bool) : V := cond ok (.t [v, .u (.b b)]) v
def lookS (P : Program) (T : TypeId) (x k : V) (ok : Bool) (m : Mem) (K : V → Prop) : Prop :=
 match mapT P T, mkOf k with
 | some (kt, zs, E, zv), some k => cond (kt.has k) (match x with
   | .m b => match mg m b with
     | .p kt' sz ag rows => cond (ktEq kt kt' && zyw sz zs.length && (ag == isAg P E)) (mO (zbl rows k) (fun r => dUs zs r 0 fun us => K (lookR ok (oneA P E (us.map .u)) true)) (K (lookR ok zv false))) False
     | _ => False
   | .nm => K (lookR ok zv false)
   | _ => False) False
 | _, _ => False
def nilOf (m : Mem) : V → Option (Bool × Bool)
 | .nl _ => some (true, false)
 | .u (.l _ rows) => some (rows.isEmpty, true)
 | .c _ rows => some (rows.isEmpty, true)
 | .w b => match mg m b with
   | .w _ _ rows => some (rows.isEmpty, true)
   | _ => none
 | .v _ _ _ n _ => some (zyw n 0, true)
 | .sl _ _ n => some (zyw n 0, true)
 | _ => none
def nilSl (P : Program) (m : Mem) (T : TypeId) (x y : V) : Option (Bool × Bool) :=
 match y with
 | .nl _ => match P.underlying T with
   | some (.slice _) => nilOf m x
   | _ => none
 | _ => none
def nilR (op : BinOp) (r : Bool × Bool) (K : Value → Prop) : Prop :=
 match r with
 | (true, false) => zeb op true K
 | (false, true) => zeb op false K
 | (true, true) => zeb op true K ∧ zeb op false K
 | _ => False
def ltK (c : Bool) (r n : Int) (K : Prop) : Prop := cond c (r = n ∧ K) K
def viewS (P : Program) (t : List V) (e : TypeId) (lo hi mx : Option Operand) (b sz l n : Nat) (c : Bool) (K : V → Prop) : Prop :=
 cond (zyw sz (zao P e) && !zyw sz 0) (match mx, zs3 t lo 0, zs3 t hi n with
  | none, some l', some r => leK lo.isNone 0 l' (l' ≤ r ∧ r ≤ n ∧ ltK c r n (K (.v b sz (l + l'.toNat) (r.toNat - l'.toNat) c)))
  | some mx, some l', some r => match evS t mx with
    | .u (.i _ k) => cond hi.isSome (leK lo.isNone 0 l' (l' ≤ r ∧ r ≤ n ∧ k = r ∧ K (.v b sz (l + l'.toNat) (r.toNat - l'.toNat) true))) False
    | _ => False
  | _, _, _ => False) False
def srcS (m : Mem) : V → Option (Nat × List (List U))
 | .u (.l s r) => some (s, r)
 | .c s r => some (s, r)
 | .w b => match mg m b with
   | .w _ s r => some (s, r)
   | _ => none
 | .v b sz l n _ => match mg m b with
   | .w _ s r => cond (zyw s sz) (some (s, (r.drop l).take n)) none
   | _ => none
 | _ => none
def zye : List (List U) → Option (List Int)
 | [] => some []
 | [.i .u8 n] :: l => match zye l with | some r => some (n :: r) | none => none
 | _ :: _ => none
def zva (l : List Int) : ByteArray := l.foldl (fun r n => r.push (UInt8.ofNat n.toNat)) ByteArray.empty
def strR (P : Program) (s d : TypeId) (m : Mem) (v : V) : Option V :=
 match P.underlying s, P.underlying d with
 | some (.slice e), some .string => (match P.underlying e, srcS m v with
   | some (.int .u8), some (1, rows) => (match zye rows with
     | some ns => some (.u (.s (zva ns)))
     | none => none)
   | _, _ => none)
 | _, _ => none
def znt (o : Oper) : Bool := zg3 o && (match o.op with | .convert .. => false | _ => true)
def zro (P : Program) (t : List V) (m : Mem) (o : Oper) (K : V → Prop) : Prop :=
 match o.op with
 | .move x | .assign x => K (evS t x)
 | .pick c a b => pickS (evS t c) (evS t a) (evS t b) K
 | .nilCheck x => match evS t x with
   | .u (.p p) => oP p fun c => K (.q c 0)
   | .f g a c => K (.f g a c)
   | x => cond (zoc x) (K x) False
 | .binOp op T x y _ => match nilSl P m T (evS t x) (evS t y) with
   | some r => nilR op r fun v => K (zs6 v)
   | none => match arrE P T (evS t x) (evS t y) with
     | some c => zeb op c fun v => K (zs6 v)
     | none => binS P op T (evS t x) (evS t y) K
 | .unOp op _ x => match zot (evS t x) with
   | some a => XWp P (Op.unary op a) fun v => K (zs6 v)
   | none => False
 | .convert s d x => match zot (evS t x) with
   | some a => XWp P (convert s d a) fun v => K (zs6 v)
   | none => (match strR P s d m (evS t x) with
     | some v => K v
     | none => False)
 | .makeFunc (.func g) a c => K (.f g (a.toList.map (evS t)) (c.toList.map (evS t)))
 | .fieldAddr T x f => match P.underlying T with
   | some (.struct fs) => match fs[f]? with
     | some fd => nz (zao P fd.type) (ptrAdd (evS t x) fd.offset K)
     | none => False
   | _ => False
 | .field T x f => match P.underlying T, evS t x with
   | some (.struct fs), .a l => match fs[f]? with
     | some fd => match ztx P fd.type, ze1 fd.offset l with
       | some (.one z), some (v :: _) => cond (shOk z v) (K v) False
       | some (.many zs), some l => match zjr zs.length l with
         | some vs => K (.a vs)
         | none => False
       | _, _ => False
     | none => False
   | _, _ => False
 | .indexAddr T x i => match evS t i with
   | .u (.i _ i) => match P.underlying T, asD (evS t x) with
     | some (.slice e), .u (.l s rows) => cond (zyw s (zao P e) && !zyw s 0) (elL rows i fun r => K (.q r 0)) False
     | some (.slice e), .c s rows => cond (zyw s (zao P e) && !zyw s 0) (elL rows i fun r => K (.q r 0)) False
     | some (.slice e), .w b => match mg m b with
       | .w _ sz rows => cond (zyw sz (zao P e) && !zyw sz 0) (0 ≤ i ∧ i < rows.length ∧ K (.e b sz i 0)) False
       | .cw _ sz n _ => cond (zyw sz (zao P e) && !zyw sz 0) (0 ≤ i ∧ i < n ∧ K (.e b sz i 0)) False
       | _ => False
     | some (.slice e), .v b sz l n _ => cond (zyw sz (zao P e) && !zyw sz 0) (0 ≤ i ∧ i < n ∧ K (.e b sz (l + i) 0)) False
     | some (.slice e), .sl b o n => nz (zao P e) (idxK i n fun j => K (.r b (o + j * zao P e)))
     | some (.array n e), .e b sz k o => nz (zao P e) (idxK i n fun j => K (.e b sz k (o + j * zao P e)))
     | some (.array n e), .r b o => match mg m b with
       | .c cells => match ze1 o cells with
         | some (.n _ w _ :: _) => cond (zyw w n && zyw (zao P e) 1) (0 ≤ i ∧ i < n ∧ K (.g b o w i)) False
         | some _ => match i with
           | .ofNat j => cond (zzc (j + 1) n) (nz (zao P e) (K (.r b (o + j * zao P e)))) False
           | .negSucc _ => False
         | none => False
       | _ => False
     | some (.array n e), .q c o => nz (zao P e) (idxK i n fun j => K (.q c (o + j * zao P e)))
     | _, _ => False
   | _ => False
 | .index T x i => match evS t i with
   | .u (.i _ i) => match P.underlying T, evS t x with
     | some .string, .u (.s s) => 0 ≤ i ∧ i < s.size ∧ K (.u (.i .u8 (s.data.getD i.toNat 0).toNat))
     | some (.array n e), .a l => match zb9 P e, zox l with
       | some zs, some us => cond (zyw us.length (n * zs.length)) (elL (zub n zs.length us) i fun r => dUs zs r 0 fun vs => K (oneA P e (vs.map .u))) False
       | _, _ => False
     | _, _ => False
   | _ => False
 | .extract x i => match evS t x with
   | .t l => cond (zzc (i + 1) l.length) (K (zhv l i)) False
   | _ => False
 | .build T ps => match P.info? T, P.underlying T with
   | some inf, some (.struct fs) => match inf.zero with
     | some (.agg cs) => cond (zji P fs.toList) (match zt7 (zih P fs.toList) (zjv P T (cs.toList.map zp5)) (ps.toList.map fun p => (p.1, evS t p.2)) with
       | some l => K (.a (zjv P T l))
       | none => False) False
     | _ => False
   | some inf, some (.array _ e) => match inf.zero with
     | some (.agg cs) => nz (zao P e) (match zt7 (fun i => some (i * zao P e, zao P e)) (fixN (zgo P 9 T) (cs.toList.map zp5)) (ps.toList.map fun p => (p.1, evS t p.2)) with
       | some l => K (.a (zjv P T l))
       | none => False)
     | _ => False
   | _, _ => False
 | .slice T x lo hi mx => match P.underlying T, asD (evS t x) with
   | some .string, .u (.s s) => match mx, zs3 t lo 0, zs3 t hi s.size with
     | none, some l, some r => leK lo.isNone 0 l (l ≤ r ∧ r ≤ s.size ∧ K (.u (.s (s.extract l.toNat r.toNat))))
     | _, _, _ => False
   | some (.slice e), .u (.l s rows) => cond (zyw s (zao P e) && !zyw s 0) (match mx, zs3 t lo 0, zs3 t hi rows.length with
     | none, some l, some r => leK lo.isNone 0 l (l ≤ r ∧ r ≤ rows.length ∧ K (.u (.l s ((rows.take r.toNat).drop l.toNat))))
     | some mx, some l, some r => match evS t mx with
       | .u (.i _ k) => cond hi.isSome (leK lo.isNone 0 l (l ≤ r ∧ r ≤ rows.length ∧ k = r ∧ K (.c s ((rows.take r.toNat).drop l.toNat)))) False
       | _ => False
     | _, _, _ => False) False
   | some (.slice e), .c s rows => cond (zyw s (zao P e) && !zyw s 0) (match mx, zs3 t lo 0, zs3 t hi rows.length with
     | none, some l, some r => leK lo.isNone 0 l (l ≤ r ∧ r ≤ rows.length ∧ r = rows.length ∧ K (.c s ((rows.take r.toNat).drop l.toNat)))
     | _, _, _ => False) False
   | some (.slice e), .w b => match mg m b with
     | .w _ sz rows => viewS P t e lo hi mx b sz 0 rows.length false K
     | _ => False
   | some (.slice e), .v b sz l n c => viewS P t e lo hi mx b sz l n c K
   | _, _ => False
 | .load T a => sLoad P T (evS t a) m K
 | .lookup T x k ok => lookS P T (evS t x) (evS t k) ok m K
 | .call c => match c.callee with
   | .builtin .len => match c.args.toList, c.argTypes.toList with
     | [x], [T] => cond (okLen (P.underlying T) (evS t x)) (lenS m (evS t x) fun n => K (.u (.i .i64 n))) False
     | _, _ => False
   | .builtin .min => match zyl t c.args.toList with
     | some vs => XWp P (Builtin.min_ c.argTypes o.type vs.toArray) fun v => K (zs6 v)
     | none => False
   | .builtin .max => match zyl t c.args.toList with
     | some vs => XWp P (Builtin.max_ c.argTypes o.type vs.toArray) fun v => K (zs6 v)
     | none => False
   | _ => False
 | _ => False
def inL : List Nat → Nat → Bool
 | [], _ => false
 | x :: l, b => zyw x b || inL l b
def toU (ro : List Nat) (m : Mem) : V → Option (U × Mem)
 | .u x => some (x, m)
 | .c s rows => some (.l s rows, m)
 | .nl s => some (.l s [], m)
 | .q c 0 => some (.p (some c), m)
 | .w b => match mg m b with
   | .w _ sz rows => cond (inL ro b) none (some (.l sz rows, ms m b .x))
   | _ => none
 | _ => none
def toUs (ro : List Nat) : Mem → List V → Option (List U × Mem)
 | m, [] => some ([], m)
 | m, v :: l => match toU ro m v with
   | some (u, m1) => match toUs ro m1 l with
     | some (us, m2) => some (u :: us, m2)
     | none => none
   | none => none
def usp : List U → Nat → List U → List U
 | l, _, [] => l
 | [], _, _ => []
 | _ :: l, 0, v :: vs => v :: usp l 0 vs
 | x :: l, n + 1, v :: vs => x :: usp l n (v :: vs)
def zq0 (P : Program) (T : TypeId) (x : V) : Bool :=
 match ztx P T, x with
 | some (.many _), .a _ => true
 | some (.one _), .a _ => false
 | some (.one _), _ => true
 | _, _ => false
def zqb (m : Mem) : List V → Bool
 | [] => false
 | .w j :: l => (match mg m j with
   | .w _ s _ => zyw s 1
   | _ => true) || zqb m l
 | .u _ :: l => zqb m l
 | .c _ _ :: l => zqb m l
 | .nl _ :: l => zqb m l
 | .q _ 0 :: l => zqb m l
 | _ :: _ => true
def zvm (P : Program) (vw : Bool) (ro : List Nat) (T : TypeId) (a x : V) (m : Mem) (K : Mem → Prop) : Prop :=
 match zb9 P T, zhw P T x with
 | some zs, some xs => cond (shL zs xs && zq0 P T (zdf P T x)) (match a with
   | .r b o => cond (inL ro b) False (match mg m b with
     | .c cells => match zuj xs o cells with
       | some l => K (ms m b (.c l))
       | none => False
     | _ => False)
   | .g b o w k => cond (inL ro b) False (match mg m b, xs with
     | .c cells, [.u (.i .i64 y)] => match ze1 o cells with
       | some (.n k' w' l :: _) => cond (zyw w w' && zyw (zax k') 3) (match zuj [.n .i64 w (l.set k.toNat y)] o cells with
         | some l => K (ms m b (.c l))
         | none => False) False
       | _ => False
     | _, _ => False)
   | .e b sz k o => cond (inL ro b) False (match mg m b with
     | .cw E sz' n cells => cond (zyw sz sz') (match zuj xs (k.toNat * sz + o) cells with
       | some l => K (ms m b (.cw E sz n l))
       | none => False) False
     | .w E sz' rows => cond (vw && zqb m xs) (cond (zyw sz sz') (match zuj xs (k.toNat * sz + o) (rows.flatten.map V.u) with
      | some l => K (ms m b (.cw E sz rows.length l))
      | none => False) False) (match toUs ro m xs with
      | some (us, m1) => match mg m1 b with
        | .w E sz' rows => cond (zyw sz sz') (cond (zyw o 0 && zyw us.length sz) (K (ms m1 b (.w E sz (rows.set k.toNat us))))
         (cond (zzc (o + us.length) sz) (elL rows k fun r => K (ms m1 b (.w E sz (rows.set k.toNat (usp r o us))))) False)) False
        | _ => False
      | none => False)
     | _ => False)
   | _ => False) False
 | _, _ => False
def isSg : V → Bool
 | .a _ => false
 | .t _ => false
 | .z => false
 | _ => true
def appCS (P : Program) (ro : List Nat) (e : TypeId) (x y : V) (m : Mem) (K : V → Mem → Prop) : Prop :=
 match y with
 | .sl b2 o n => match mg m b2 with
   | .c cells => match ze1 o cells with
     | some l => match zjr (n * zao P e) l with
       | some new => cond (new.all isSg && !zyw n 0) (match x with
         | .nl _ => cond (zzc (0 + n) 1000000) (K (.w m.length) (m ++ [.cw e (zao P e) n new])) False
         | .w b => cond (inL ro b) False (match mg m b with
           | .cw e' s k old => cond (zyw e e' && zyw (zao P e) s && zzc (k + n) 1000000) (K (.w m.length) (ms m b .x ++ [.cw e (zao P e) (k + n) (old ++ new)])) False
           | _ => False)
         | _ => False) False
       | none => False
     | none => False
   | _ => False
 | _ => False
def appS (P : Program) (ro : List Nat) (T : TypeId) (x y : V) (m : Mem) (K : V → Mem → Prop) : Prop :=
 match P.underlying T with
 | some (.slice e) => cond (zx0 P T e (zao P e)) (match y with
   | .nl _ => (match x with
     | .nl s => K (.nl s) m
     | .u (.l s r) => K (.u (.l s r)) m
     | .c s r => K (.c s r) m
     | .v b sz l n c => K (.v b sz l n c) m
     | _ => False)
   | y => (match srcS m y with
     | some (s, new) => cond (zyw s (zao P e)) (match x with
       | .nl _ => zan [] new ∧ K (.w m.length) (m ++ [.w e s new])
       | .w b => cond (inL ro b) False (match mg m b with
         | .w e' s' rows => cond (zyw e e' && zyw s s') (zan rows new ∧ K (.w m.length) (ms m b .x ++ [.w e s (rows ++ new)])) False
         | _ => False)
       | .c s' rows => cond (zyw s s') (zan rows new ∧ match new with
         | _ :: _ => K (.w m.length) (m ++ [.w e s (rows ++ new)])
         | [] => K (.c s rows) m) False
       | .v b s' l n c => cond (zyw s s') (match mg m b with
         | .w e' s2 rows => cond (zyw e e' && zyw s2 s) (match new with
           | [] => K (.v b s' l n c) m
           | _ :: _ => cond c (zan ((rows.drop l).take n) new ∧ K (.w m.length) (m ++ [.w e s ((rows.drop l).take n ++ new)]))
             (cond (zyw l 0 && !inL ro b) (zan (rows.take n) new ∧ K (.w m.length) (ms m b .x ++ [.w e s (rows.take n ++ new)])) False)) False
         | _ => False) False
       | _ => False) False
     | none => appCS P ro e x y m K)) False
 | _ => False
def keepT (P : Program) (e : TypeId) : Bool :=
 match P.underlying e with
 | some (.struct fs) => fs.toList.any fun f => (match P.underlying f.type with | some (.slice e) => zyw (zao P e) 1 | _ => false) && !(f.pkgPath == "")
 | _ => false
def zno (P : Program) (ro : List Nat) (e : TypeId) : List (List U) → Mem → List (Nat × V) → Option (List (List U) × Mem)
 | l, m, [] => some (l, m)
 | l, m, (i, v) :: rest => match zhw P e v with
   | some xs => match toUs ro m xs with
     | some (us, m1) => cond (zyw us.length (zao P e) && zzc (i + 1) l.length) (zno P ro e (l.set i us) m1 rest) none
     | none => none
   | none => none
def zrow (P : Program) (e : TypeId) : Option (List U) :=
 match (P.info? e).bind (·.zero) with
 | some z => zox (fixN (zgo P 9 e) (z.cells.toList.map zp5))
 | none => none
def zcells (P : Program) (e : TypeId) (n : Nat) : Option (List V) :=
 match (P.info? e).bind (·.zero) with
 | some z => cond (zyw z.cells.size (zao P e)) (some (zzi n (fixN (zgo P 9 e) (z.cells.toList.map zp5))).flatten) none
 | none => none
def zh7 (P : Program) (e : TypeId) (n : Nat) (ps : List (Nat × V)) : Option (List V) :=
 match zcells P e n with
 | some l => zt7 (fun i => some (i * zao P e, zao P e)) l (ps.map fun p => (p.1, zdf P e p.2))
 | none => none
def zx8 (P : Program) (ro : List Nat) (T : TypeId) (x : V) (m : Mem) (K : Mem → Prop) : Prop :=
 match P.underlying T with
 | some (.slice e) => match x with
   | .v b sz l n _ => cond (!inL ro b && zyw sz (zao P e) && !zyw n 0) (match mg m b, zrow P e with
     | .w E s rows, some zr => cond (zyw s sz && zyw zr.length sz) (K (ms m b (.w E s (rows.take l ++ (zzi n zr ++ rows.drop (l + n)))))) False
     | _, _ => False) False
   | _ => False
 | _ => False
def zp7 (P : Program) (ro : List Nat) (T : TypeId) (x k v : V) (m : Mem) (K : Mem → Prop) : Prop :=
 match mapT P T, mkOf k, x with
 | some (kt, zs, E, _), some k, .m b => cond (kt.has k && !inL ro b) (match zhw P E v with
   | some xs => match toUs ro m xs with
     | some (us, m1) => match mg m1 b with
       | .p kt' sz ag rows => cond (ktEq kt kt' && zyw sz zs.length && (ag == isAg P E) && zyw us.length sz && zq0 P E (zdf P E v)) (K (ms m1 b (.p kt' sz ag (za1 rows k us)))) False
       | _ => False
     | none => False
   | none => False) False
 | _, _, _ => False
def zp8 (P : Program) (ro : List Nat) (T K' : TypeId) (x k : V) (m : Mem) (K : Mem → Prop) : Prop :=
 match P.underlying T, zl0 P K', mkOf k, x with
 | some (.map K1 _), some kt, some k, .m b => cond (zyw K1 K' && kt.has k && !inL ro b) (match mg m b with
   | .p kt' sz ag rows => cond (ktEq kt kt') (K (ms m b (.p kt' sz ag (zdj rows k)))) False
   | _ => False) False
 | some (.map K1 _), some kt, some k, .nm => cond (zyw K1 K' && kt.has k) (K m) False
 | _, _, _, _ => False
def bdL (P : Program) : List Field → Option TypeId
 | [f, g] => (match P.underlying f.type, P.underlying g.type with
   | some (.pointer _), some (.slice e) => (match P.underlying e with
     | some (.int .u8) => some e
     | _ => none)
   | _, _ => none)
 | _ => none
def bdE (P : Program) (T : TypeId) : Option TypeId :=
 match P.underlying T with
 | some (.struct fs) => (match fs.toList with
   | [f] => (match P.underlying f.type with
     | some (.struct gs) => bdL P gs.toList
     | _ => none)
   | l => bdL P l)
 | _ => none
def newA (P : Program) (T : TypeId) (z : Value) : AB :=
 match bdE P T, z.cells.toList with
 | some e, [.pointer none, .slice none 0 0] => .o (.bd ⟨T, e, []⟩)
 | _, _ => .c (match ofV z with | .a l => zjv P T l | x => [zdf P T x])
def boxB (T : TypeId) (e : TypeId) (xs : List V) : AB :=
 match xs with
 | [.u (.p none), .nl _] => .o (.bd ⟨T, e, []⟩)
 | xs => .c xs
def boxA (T : TypeId) (o : Option TypeId) (xs : List V) : AB :=
 match o with
 | none => .c xs
 | some e => boxB T e xs
abbrev zel := FuncId → List V → Mem → (V → Mem → Prop) → Prop
def effS (P : Program) (vw : Bool) (ro : List Nat) (call : zel) (t : List V) (m : Mem) (o : Oper) (K : V → Mem → Prop) : Prop :=
 match o.op with
 | .store T a x => zvm P vw ro T (evS t a) (evS t x) m fun m' => K .z m'
 | .box T x => match zhw P T (evS t x) with
   | some xs => K (.r m.length 0) (m ++ [boxA T (bdE P T) xs])
   | none => False
 | .alloc T => match (P.info? T).bind (·.zero) with
   | some z => K (.r m.length 0) (m ++ [newA P T z])
   | none => False
 | .buildSlice T n ps => match P.underlying T with
   | some (.slice e) => match zrow P e with
     | some zr => cond (zzc (n * zao P e) 16777216 && !zyw (n * zao P e) 0 && zyw zr.length (zao P e)) (match cond (vw && keepT P e) none (zno P ro e (zzi n zr) m (ps.toList.map fun p => (p.1, evS t p.2))) with
       | some (rows, m1) => K (.w m1.length) (m1 ++ [.w e (zao P e) rows])
       | none => match zh7 P e n (ps.toList.map fun p => (p.1, evS t p.2)) with
         | some l => K (.sl m.length 0 n) (m ++ [.c l])
         | none => False) (cond (zyw n 0 && zyw ps.size 0) (K (.c (zao P e) []) m) False)
     | none => match zh7 P e n (ps.toList.map fun p => (p.1, evS t p.2)) with
      | some l => cond (zzc (n * zao P e) 16777216 && !zyw (n * zao P e) 0) (K (.sl m.length 0 n) (m ++ [.c l])) False
      | none => False
   | _ => False
 | .makeSlice T l c => match P.underlying T, evS t l, evS t c with
   | some (.slice e), .u (.i .i64 l), .u (.i .i64 c) => match zrow P e with
     | some zr => cond (zx0 P T e (zao P e) && zyw zr.length (zao P e)) (0 ≤ l ∧ l ≤ 1000000 ∧ c = l ∧ K (.w m.length) (m ++ [.w e (zao P e) (zzi l.toNat zr)])) False
     | none => False
   | _, _, _ => False
 | .call c => match c.callee with
   | .value f => match evS t f with
     | .f g a cc => call g (a ++ c.args.toList.map (evS t) ++ cc) m K
     | _ => False
   | .builtin .append => match c.args.toList, c.argTypes.toList with
     | [x, y], [T, T'] => cond (zyw T T') (appS P ro T (evS t x) (evS t y) m K) False
     | _, _ => False
   | .builtin .delete => match c.args.toList, c.argTypes.toList with
     | [x, y], [T, T'] => zp8 P ro T T' (evS t x) (evS t y) m fun m' => K (.t []) m'
     | _, _ => False
   | .builtin .clear => match c.args.toList, c.argTypes.toList with
     | [x], [T] => zx8 P ro T (evS t x) m fun m' => K (.t []) m'
     | _, _ => False
   | _ => False
 | .makeMap T none => match mapT P T with
   | some (kt, zs, E, _) => K (.m m.length) (m ++ [.p kt zs.length (isAg P E) []])
   | none => False
 | .mapUpdate T x k v => zp7 P ro T (evS t x) (evS t k) (evS t v) m fun m' => K .z m'
 | _ => False
def zg4 (x : Int) : List U := [.i .i64 x]
def cutS (P : Program) (ro : List Nat) (t : List V) (m : Mem) (o : Oper) (K : V → Mem → Prop) : Option Prop :=
 match o.op with
 | .slice T x lo hi none => match evS t x with
   | .w b => match P.underlying T, mg m b with
     | some (.slice e), .w E sz rows => match zs3 t lo 0, zs3 t hi rows.length with
       | some l, some r => some (cond (inL ro b || !(zyw sz (zao P e) && !zyw sz 0)) False (match lo with
         | none => 0 ≤ r ∧ r ≤ rows.length ∧ K (.w m.length) (ms m b .x ++ [.w E sz (rows.take r.toNat)])
         | some _ => 0 ≤ l ∧ l ≤ r ∧ r ≤ rows.length ∧ K (.u (.l sz ((rows.take r.toNat).drop l.toNat))) (ms m b .x)))
       | _, _ => some False
     | _, _ => some False
   | .r b 0 => match lo, hi, mg m b with
     | none, none, .c [.n k w xs] => match P.underlying T with
       | some (.array n e) => some (cond (!inL ro b && zyw n w && zyw (zao P e) 1 && zyw (zax k) 3) (K (.u (.l 1 (xs.map zg4))) (ms m b .x)) False)
       | some (.pointer A) => match P.underlying A with
         | some (.array n e) => some (cond (!inL ro b && zyw n w && zyw (zao P e) 1 && zyw (zax k) 3) (K (.u (.l 1 (xs.map zg4))) (ms m b .x)) False)
         | _ => some False
       | _ => some False
     | _, _, _ => some False
   | _ => none
 | _ => none
def quietB (o : Oper) : Bool := zg3 o || zrm o
def zjg (s : ByteArray) : List (List U) := s.data.toList.map fun c => [.i .u8 c.toNat]
def strO (P : Program) (o : Oper) : Bool :=
 match o.op with
 | .convert s d _ => (match P.underlying s, P.underlying d with
   | _, some (.slice _) => true
   | some (.slice _), some .string => true
   | _, _ => false)
 | _ => false
def strS (P : Program) (t : List V) (m : Mem) (o : Oper) : Option V :=
 match o.op with
 | .convert s d x => (match P.underlying s, P.underlying d, evS t x with
   | some _, some (.slice e), .u (.s b) => (match P.underlying e with
     | some (.int .u8) => some (.u (.l 1 (zjg b)))
     | _ => none)
   | some (.slice e), some .string, v => (match P.underlying e, srcS m v with
     | some (.int .u8), some (1, rows) => (match zye rows with
       | some ns => some (.u (.s (zva ns)))
       | none => none)
     | _, _ => none)
   | _, _, _ => none)
 | _ => none
def strP (P : Program) (t : List V) (m : Mem) (o : Oper) (K : V → Mem → Prop) : Option Prop :=
 cond (strO P o) (match strS P t m o with
  | some v => some (K v m)
  | none => some False) none
def opS (P : Program) (vw : Bool) (ro : List Nat) (call : zel) (t : List V) (m : Mem) (o : Oper) (K : V → Mem → Prop) : Prop :=
 match cond vw (strP P t m o K) (cutS P ro t m o K) with
 | some p => p
 | none => cond (quietB o) (zro P t m o fun v => K v m) (effS P vw ro call t m o K)
def zoi (ops : List Oper) (o : Oper) (t : List V) (A B : List V → Prop) : Prop :=
 match zi4 ops o with
 | none => A t
 | some (none, _) => B t
 | some (some d, want) =>
   match zhv t d with
   | .u (.b c) => cond c (cond want (A (zph t d (.u (.b true)))) (B (zph t d (.u (.b true))))) (cond want (B (zph t d (.u (.b false)))) (A (zph t d (.u (.b false)))))
   | .t [] => B t
   | _ => False
mutual
def zae : V → List Nat
 | .r b _ => [b]
 | .e b _ _ _ => [b]
 | .g b _ _ _ => [b]
 | .w b => [b]
 | .m b => [b]
 | .y b => [b]
 | .v b _ _ _ _ => [b]
 | .sl b _ _ => [b]
 | .f _ a c => zag a ++ zag c
 | .a l => zag l
 | .t l => zag l
 | _ => []
def zag : List V → List Nat
 | [] => []
 | v :: l => zae v ++ zag l
end
def za9 : AB → List Nat
 | .c l => zag l
 | .cw _ _ _ l => zag l
 | _ => []
def clo (m : Mem) : Nat → List Nat → List Nat → List Nat
 | 0, _, acc => acc
 | _ + 1, [], acc => acc
 | n + 1, b :: todo, acc => cond (inL acc b) (clo m n todo acc) (clo m n (za9 (mg m b) ++ todo) (acc ++ [b]))
def zk8 (t : List V) (o : Oper) : List Nat := zag (o.op.operands.toList.map (evS t))
def zt1 (ops : List Oper) (e : Nat) : List (Nat × List Nat) → List Nat
 | [] => []
 | (i, bs) :: l => cond (waits ops ops.length i e) (zt1 ops e l) (bs ++ zt1 ops e l)
def zgt (P : Program) (vw : Bool) (ro hr : List Nat) (call : List Nat → zel) (ops : List Oper) (K : List V → Mem → Prop) : Nat → List Nat → List (Nat × List Nat) → List V → Mem → Prop
 | 0, _, _, t, m => K t m
 | n + 1, done, held, t, m =>
   match nextQ ops done with
   | some i =>
     match ops[i]? with
     | none => False
     | some o => zoi ops o t
      (fun t => zro P t m o fun v => zgt P vw ro hr call ops K n (i :: done) (cond (znt o) held ((i, zk8 t o) :: held)) (vput t o.dst v) m)
      (fun t => zgt P vw ro hr call ops K n (i :: done) held (vput t o.dst (.t [])) m)
   | none => conjL (zic ops done) fun i =>
     match ops[i]? with
     | none => False
     | some o => zoi ops o t
      (fun t => effS P vw (zt1 ops i held ++ hr ++ ro) (call (zt1 ops i held ++ hr)) t m o fun v m' => zgt P vw ro hr call ops K n (i :: done) held (vput t o.dst v) m')
      (fun t => zgt P vw ro hr call ops K n (i :: done) held (vput t o.dst (.t [])) m)
def zkx (t : List V) (o : Oper) : Option (Nat × List V) :=
 match o.op with
 | .call c => match c.callee with
   | .value f => match evS t f with
     | .y b => some (b, c.args.toList.map (evS t))
     | _ => none
   | _ => none
 | _ => none
def ztk (P : Program) (vw : Bool) (ro : List Nat) (call : zel) (yh : Nat → List V → Mem → (V → Mem → Prop) → Prop) (ops : List Oper) (K : List V → Mem → Prop) : List Oper → List V → Mem → Prop
 | [], t, m => K t m
 | o :: rest, t, m => zoi ops o t (fun t => match zkx t o with
     | some (b, args) => yh b args m fun v m' => ztk P vw ro call yh ops K rest (vput t o.dst v) m'
     | none => opS P vw ro call t m o fun v m' => ztk P vw ro call yh ops K rest (vput t o.dst v) m')
  (fun t => ztk P vw ro call yh ops K rest (vput t o.dst (.t [])) m)
inductive Pt where
 | i (k : IntKind) | b | s | l (s : Nat) | p | n (w : Nat) | ow (E sz : Nat) | w (j : Nat) | r (j o : Nat) | m (j : Nat) | nm | z | A | X | row (E sz : Nat) | mp (kt : KT) (sz : Nat) (ag : Bool)
inductive It where
 | v (y : V)
 | e (y : AB)
def Pt.Fn (X : Type) : Pt → Type
 | .i _ => Int → X
 | .b => Bool → X
 | .s => ByteArray → X
 | .l _ => List (List U) → X
 | .p => Option (List U) → X
 | .n _ => List Int → X
 | .ow _ _ => List (List U) → X
 | .row _ _ => List (List U) → X
 | .A => Ob → X
 | .mp .. => List (MK × List U) → X
 | _ => X
def Pt.lam {X : Type} : (y : Pt) → (It → X) → y.Fn X
 | .i k, K => fun n => K (.v (.u (.i k n)))
 | .b, K => fun n => K (.v (.u (.b n)))
 | .s, K => fun n => K (.v (.u (.s n)))
 | .l sz, K => fun n => K (.v (.u (.l sz n)))
 | .p, K => fun n => K (.v (.u (.p n)))
 | .n nw, K => fun n => K (.v (.n .i64 nw n))
 | .ow E sz, K => fun n => K (.e (.w E sz n))
 | .row E sz, K => fun n => K (.e (.w E sz n))
 | .A, K => fun n => K (.e (.o n))
 | .mp kt sz ag, K => fun n => K (.e (.p kt sz ag n))
 | .w j, K => K (.v (.w j))
 | .r j o, K => K (.v (.r j o))
 | .m j, K => K (.v (.m j))
 | .nm, K => K (.v .nm)
 | .z, K => K (.v .z)
 | .X, K => K (.e .x)
def Pt.zip {X Y Z : Type} : (y : Pt) → y.Fn X → y.Fn Y → (X → Y → Z) → y.Fn Z
 | .i _, f, g, K => fun n => K (f n) (g n)
 | .b, f, g, K => fun n => K (f n) (g n)
 | .s, f, g, K => fun n => K (f n) (g n)
 | .l _, f, g, K => fun n => K (f n) (g n)
 | .p, f, g, K => fun n => K (f n) (g n)
 | .n _, f, g, K => fun n => K (f n) (g n)
 | .ow _ _, f, g, K => fun n => K (f n) (g n)
 | .row _ _, f, g, K => fun n => K (f n) (g n)
 | .A, f, g, K => fun n => K (f n) (g n)
 | .mp .., f, g, K => fun n => K (f n) (g n)
 | .w _, f, g, K => K f g
 | .r _ _, f, g, K => K f g
 | .m _, f, g, K => K f g
 | .nm, f, g, K => K f g
 | .z, f, g, K => K f g
 | .X, f, g, K => K f g
def Pt.all {X : Type} : (y : Pt) → y.Fn X → (X → Prop) → Prop
 | .i _, f, K => ∀ n : Int, K (f n)
 | .b, f, K => ∀ n : Bool, K (f n)
 | .s, f, K => ∀ n : ByteArray, K (f n)
 | .l _, f, K => ∀ n : List (List U), K (f n)
 | .p, f, K => ∀ n : Option (List U), K (f n)
 | .n _, f, K => ∀ n : List Int, K (f n)
 | .ow _ _, f, K => ∀ n : List (List U), K (f n)
 | .row _ _, f, K => ∀ n : List (List U), K (f n)
 | .A, f, K => ∀ n : Ob, K (f n)
 | .mp .., f, K => ∀ n : List (MK × List U), K (f n)
 | .w _, f, K => K f
 | .r _ _, f, K => K f
 | .m _, f, K => K f
 | .nm, f, K => K f
 | .z, f, K => K f
 | .X, f, K => K f
def PtT (R : Type) : List Pt → Type
 | [] => R
 | y :: l => y.Fn (PtT R l)
def Pt.app {X : Type} : (y : Pt) → y.Fn X → It → Option X
 | .i _, F, .v (.u (.i _ nn)) => some (F nn)
 | .b, F, .v (.u (.b nn)) => some (F nn)
 | .s, F, .v (.u (.s nn)) => some (F nn)
 | .l _, F, .v (.u (.l _ nn)) => some (F nn)
 | .p, F, .v (.u (.p nn)) => some (F nn)
 | .n _, F, .v (.n _ _ nn) => some (F nn)
 | .ow _ _, F, .e (.w _ _ nn) => some (F nn)
 | .row _ _, F, .e (.w _ _ nn) => some (F nn)
 | .A, F, .e (.o nn) => some (F nn)
 | .mp .., F, .e (.p _ _ _ nn) => some (F nn)
 | .w _, F, _ => some F
 | .r _ _, F, _ => some F
 | .m _, F, _ => some F
 | .nm, F, _ => some F
 | .z, F, _ => some F
 | .X, F, _ => some F
 | _, _, _ => none
def apP {R : Type} (d : R) : (ps : List Pt) → PtT R ps → List It → R
 | [], F, _ => F
 | _ :: _, _, [] => d
 | y :: ps, F, i :: is => match y.app F i with
   | some G => apP d ps G is
   | none => d
def pk1 (lim : Nat) (m : Mem) : Pt → V → Option (It × Mem)
 | .i k, .u (.i k' n) => cond (zyw (zax k) (zax k')) (some (.v (.u (.i k n)), m)) none
 | .b, .u (.b c) => some (.v (.u (.b c)), m)
 | .s, .u (.s c) => some (.v (.u (.s c)), m)
 | .l sz, .u (.l sz' c) => cond (zyw sz sz') (some (.v (.u (.l sz c)), m)) none
 | .l sz, .c sz' c => cond (zyw sz sz') (some (.v (.u (.l sz c)), m)) none
 | .l sz, .nl _ => some (.v (.u (.l sz [])), m)
 | .p, .u (.p c) => some (.v (.u (.p c)), m)
 | .p, .q c 0 => some (.v (.u (.p (some c))), m)
 | .n nw, .n k w' c => cond (zyw nw w' && zyw (zax k) 3) (some (.v (.n .i64 nw c), m)) none
 | .ow E sz, .w j => match mg m j with
   | .w E' sz' rows => cond (zyw E E' && zyw sz sz') (some (.e (.w E sz rows), ms m j .x)) none
   | _ => none
 | .ow E sz, .nl _ => some (.e (.w E sz []), m)
 | .w j, .w j' => cond (zyw j j' && zzc (j + 1) lim) (some (.v (.w j), m)) none
 | .r j o, .r j' o' => cond (zyw j j' && zyw o o' && zzc (j + 1) lim) (some (.v (.r j o), m)) none
 | .m j, .m j' => cond (zyw j j' && zzc (j + 1) lim) (some (.v (.m j), m)) none
 | .nm, .nm => some (.v .nm, m)
 | .z, .n .. => none
 | .z, _ => some (.v .z, m)
 | _, _ => none
def pkV (lim : Nat) (m : Mem) : List Pt → List V → Option (List It × Mem)
 | [], [] => some ([], m)
 | y :: ps, x :: xs => match pk1 lim m y x with
   | some (o, m1) => match pkV lim m1 ps xs with
     | some (os, m2) => some (o :: os, m2)
     | none => none
   | none => none
 | _, _ => none
inductive BP where
 | A | X | row (E sz : Nat) | mp (kt : KT) (sz : Nat) (ag : Bool) | c (ps : List Pt)
def BP.ps : BP → List Pt
 | .A => [.A]
 | .X => [.X]
 | .row E sz => [.row E sz]
 | .mp kt sz ag => [.mp kt sz ag]
 | .c ps => ps
def zwr (lim : Nat) (m : Mem) : BP → Nat → Option (List It × Mem)
 | .A, j => match mg m j with
   | .o I => some ([.e (.o I)], ms m j .x)
   | _ => none
 | .X, j => some ([.e .x], ms m j .x)
 | .row E sz, j => match mg m j with
   | .w E' sz' rows => cond (zyw E E' && zyw sz sz') (some ([.e (.w E sz rows)], ms m j .x)) none
   | _ => none
 | .mp kt sz ag, j => match mg m j with
   | .p kt' sz' ag' rows => cond (ktEq kt kt' && zyw sz sz' && (ag == ag')) (some ([.e (.p kt sz ag rows)], ms m j .x)) none
   | _ => none
 | .c ps, j => match mg m j with
   | .c l => pkV lim (ms m j .x) ps l
   | _ => none
def pkB (lim : Nat) (m : Mem) : List BP → List Nat → Option (List It × Mem)
 | [], [] => some ([], m)
 | y :: ps, j :: js => match zwr lim m y j with
   | some (o, m1) => match pkB lim m1 ps js with
     | some (os, m2) => some (o ++ os, m2)
     | none => none
   | none => none
 | _, _ => none
inductive RP where
 | one (y : Pt) | agg (ps : List Pt)
def RP.ps : RP → List Pt
 | .one y => [y]
 | .agg ps => ps
def pkR (lim : Nat) (m : Mem) : List RP → List V → Option (List It × Mem)
 | [], [] => some ([], m)
 | .one y :: ps, x :: xs => match pkV lim m [y] [x] with
   | some (o, m1) => match pkR lim m1 ps xs with
     | some (os, m2) => some (o ++ os, m2)
     | none => none
   | none => none
 | .agg qs :: ps, .a l :: xs => match pkV lim m qs l with
   | some (o, m1) => match pkR lim m1 ps xs with
     | some (os, m2) => some (o ++ os, m2)
     | none => none
   | none => none
 | _, _ => none
def mkP {R : Type} : (ps : List Pt) → (List It → R) → PtT R ps
 | [], K => K []
 | y :: ps, K => y.lam fun i => mkP ps fun is => K (i :: is)
def zipP {X Y Z : Type} (F : X → Y → Z) : (ps : List Pt) → PtT X ps → PtT Y ps → PtT Z ps
 | [], a, b => F a b
 | y :: ps, a, b => y.zip a b (zipP F ps)
def allP : (ps : List Pt) → PtT Prop ps → Prop
 | [], a => a
 | y :: ps, a => y.all a (allP ps)
mutual
def zci (f : Nat → Nat) : V → V
 | .r b o => .r (f b) o
 | .e b s k o => .e (f b) s k o
 | .g b o w k => .g (f b) o w k
 | .w b => .w (f b)
 | .m b => .m (f b)
 | .y b => .y (f b)
 | .v b sz l n c => .v (f b) sz l n c
 | .sl b o n => .sl (f b) o n
 | .f g a c => .f g (zd0 f a) (zd0 f c)
 | .a l => .a (zd0 f l)
 | .t l => .t (zd0 f l)
 | .u x => .u x
 | .q c o => .q c o
 | .c s r => .c s r
 | .nm => .nm
 | .nl s => .nl s
 | .n k w l => .n k w l
 | .z => .z
def zd0 (f : Nat → Nat) : List V → List V
 | [] => []
 | v :: l => zci f v :: zd0 f l
end
def zo2 (f : Nat → Nat) : AB → AB
 | .c l => .c (zd0 f l)
 | .cw E s n l => .cw E s n (zd0 f l)
 | a => a
def itV (f : Nat → Nat) (m : Mem) : It → V × Mem
 | .v x => (zci f x, m)
 | .e ab => (.w m.length, m ++ [ab])
def ze8 (f : Nat → Nat) : Mem → Nat → List It → List V × List It × Mem
 | m, 0, is => ([], is, m)
 | m, _ + 1, [] => ([], [], m)
 | m, n + 1, i :: is => ((itV f m i).1 :: (ze8 f (itV f m i).2 n is).1, (ze8 f (itV f m i).2 n is).2.1, (ze8 f (itV f m i).2 n is).2.2)
def reR (f : Nat → Nat) : Mem → List RP → List It → List V × List It × Mem
 | m, [], is => ([], is, m)
 | m, .one _ :: ps, is => ((ze8 f m 1 is).1 ++ (reR f (ze8 f m 1 is).2.2 ps (ze8 f m 1 is).2.1).1, (reR f (ze8 f m 1 is).2.2 ps (ze8 f m 1 is).2.1).2)
 | m, .agg qs :: ps, is => (.a (ze8 f m qs.length is).1 :: (reR f (ze8 f m qs.length is).2.2 ps (ze8 f m qs.length is).2.1).1, (reR f (ze8 f m qs.length is).2.2 ps (ze8 f m qs.length is).2.1).2)
def reB (f : Nat → Nat) : Mem → List BP → List Nat → List It → Mem
 | m, .c qs :: ps, b :: bs, is => reB f (ms (ze8 f m qs.length is).2.2 b (.c (ze8 f m qs.length is).1)) ps bs (ze8 f m qs.length is).2.1
 | m, _ :: ps, b :: bs, .e ab :: is => reB f (ms m b ab) ps bs is
 | m, _, _, _ => m
structure Hint where
 sl : List (Nat × RP)
 bl : List (Nat × BP)
def Hint.ps (h : Hint) : List Pt := (h.sl.map (·.2)).flatMap RP.ps ++ (h.bl.map (·.2)).flatMap BP.ps
def Hint.pk (h : Hint) (lim : Nat) (t : List V) (m : Mem) : Option (List It × Mem) :=
 match pkR lim m (h.sl.map (·.2)) (h.sl.map fun p => zhv t p.1) with
 | some (os, m1) => match pkB lim m1 (h.bl.map (·.2)) (h.bl.map (·.1)) with
   | some (os2, m2) => some (os ++ os2, m2)
   | none => none
 | none => none
def tkV : List Pt → List V → List Nat
 | .ow _ _ :: ps, .w j :: xs => j :: tkV ps xs
 | _ :: ps, _ :: xs => tkV ps xs
 | _, _ => []
def tkR : List RP → List V → List Nat
 | .one y :: ps, x :: xs => tkV [y] [x] ++ tkR ps xs
 | .agg qs :: ps, .a l :: xs => tkV qs l ++ tkR ps xs
 | _ :: ps, _ :: xs => tkR ps xs
 | _, _ => []
def tkB (m : Mem) : BP → Nat → List Nat
 | .c ps, j => match mg m j with
   | .c l => j :: tkV ps l
   | _ => [j]
 | _, j => [j]
def Hint.tk (h : Hint) (t : List V) (m : Mem) : List Nat := tkR (h.sl.map (·.2)) (h.sl.map fun p => zhv t p.1) ++ h.bl.flatMap fun p => tkB m p.2 p.1
def zcq : Mem → List Nat → Mem
 | m, [] => m
 | m, b :: bs => zcq (ms m b .x) bs
def Hint.base (h : Hint) (t : List V) (m : Mem) : Mem := zcq m (h.tk t m)
def zf6 : Mem → Mem → Bool
 | [], _ => true
 | .x :: l, _ :: r => zf6 l r
 | _ :: _, .x :: _ => false
 | _ :: l, _ :: r => zf6 l r
 | _ :: _, [] => false
def Hint.el (h : Hint) (m0 : Mem) (F : PtT Prop h.ps) (t : List V) (m : Mem) : Prop :=
 match h.pk m0.length t m with
 | some (os, m1) => cond (zf6 m0 m1) (apP False h.ps F os) False
 | none => False
def zxu (md : List Nat) : List V → Nat → List V
 | [], _ => []
 | v :: l, k => cond (md.contains k) .z v :: zxu md l (k + 1)
def setS : List V → List (Nat × RP) → List V → List V
 | t, p :: ps, v :: vs => setS (zph t p.1 v) ps vs
 | t, _, _ => t
def zuh : Mem → Nat → List Nat
 | [], _ => []
 | .x :: l, k => zuh l (k + 1)
 | _ :: l, k => k :: zuh l (k + 1)
def Hint.st (h : Hint) (md : List Nat) (t : List V) (m : Mem) (is : List It) : List V × Mem :=
 (setS (zxu md t 0) h.sl (reR id (h.base t m) (h.sl.map (·.2)) is).1, reB id (reR id (h.base t m) (h.sl.map (·.2)) is).2.2 (h.bl.map (·.2)) (h.bl.map (·.1)) (reR id (h.base t m) (h.sl.map (·.2)) is).2.1)
abbrev FW (r : Option Nat) : Fence := { Fence.wide with round := r }
def zcr (o : Oper) : Bool := match o.op with | .defer _ => true | _ => false
def zeh : Code → List Ex
 | .ret => [.ret]
 | .exit i => [.ext i]
 | .seq x y => zeh x ++ zeh y
 | .cond _ x y => zeh x ++ zeh y
 | .block i c => (zeh c).filter fun e => match e with | .ext j => !zyw i j | _ => true
 | .loop c => zeh c
 | .scope c => zeh c
 | _ => []
section
variable {P : Program}
variable {f : FuncId}
theorem zku {R : Ending → World → Prop} (h : Calls P f args w R) : CallsIn (FW r) n P f args w R :=
 (callsIn_wide (n := n)).2 h
theorem zvx {row : String} {R : Value → World → Prop} (h : Rows P row args w R) : RowsIn (FW r) n P row args w R :=
 fun c cs _ => let ⟨v, w', hR, hs⟩ := h c cs; ⟨v, w', hR, stepsIn_wide.2 hs⟩
def Dm (ds : List Deferred) (K : Act → World → Prop) : Act → World → Prop := fun a w => ∃ a0, K a0 w ∧ a = { a0 with defers := a0.defers ++ ds }
def DmQ (ds : List Deferred) (Q : Exit → Act → World → Prop) : Exit → Act → World → Prop := fun e a w => ∃ a0, Q e a0 w ∧ a = { a0 with defers := a0.defers ++ ds }
theorem zka (a : Act) (ds : List Deferred) (d : Option Tmp) (v : Value) : ({ a with defers := a.defers ++ ds } : Act).put d v = { a.put d v with defers := (a.put d v).defers ++ ds } := by
 cases d <;> rfl
theorem op_in {a : Act} {K : Act → World → Prop} {ds : List Deferred} (hd : zcr o = false) (hQ : ¬ LetsOut Q) (h : o.wp P a w K Q) :
 o.wpIn (FW r) n P { a with defers := a.defers ++ ds } w (Dm ds K) (DmQ ds Q) := by
 have hd' : ∀ c, o.op ≠ .defer c := fun c e => by unfold zcr at hd; rw [e] at hd; cases hd
 refine ⟨fun _ _ => trivial, ?_⟩
 rw [Oper.semAt_eq _ _ _ hd']
 have he : ({ a with defers := a.defers ++ ds } : Act).eval = a.eval := by funext x; cases x <;> rfl
 rw [he]
 unfold Oper.wp at h
 generalize hres : (execOp a.eval o).run P w = res at h ⊢
 cases res with
 | ok nx w' =>
   cases nx <;> simp only [Oper.upon, Oper.uponIn] at h ⊢ <;> try exact h.elim
   case value v => exact ⟨_, h, zka _ _ _ _⟩
   case skip => exact ⟨_, h, zka _ _ _ _⟩
   case enter f args =>
    refine ⟨fun hh => (by cases hh), zku (h.mono fun e w'' he => ?_)⟩
    cases e with
    | returned v => exact ⟨_, he, zka _ _ _ _⟩
    | panicked c => exact ⟨_, he, rfl⟩
    | outgrown => exact absurd he hQ
   case row row args => exact ⟨fun hh => (by cases hh), zvx (Rows.mono h fun v w'' he => ⟨_, he, zka _ _ _ _⟩)⟩
   case defer d => exact ⟨_, h, zka { a with defers := d :: a.defers } ds _ _⟩
 | halt x w' =>
   cases x <;> simp only [Oper.upon, Oper.uponIn] at h ⊢ <;> try exact h.elim
   case panic v => exact ⟨_, h, rfl⟩
theorem zoz {ops : Array Oper} {Q : Exit → Act → World → Prop} {r : Option Nat} {n : Nat} {ds : List Deferred} (hd : ∀ o ∈ ops.toList, zcr o = false) (hQ : ¬ LetsOut Q) : ∀ (fuel : Nat) (listed : Array Bool) (a : Act) (w : World),
 wpAny P .any ops Q fuel listed a w → wpAnyIn (FW r) n P .any ops (DmQ ds Q) fuel listed { a with defers := a.defers ++ ds } w
 | 0, listed, a, w, h => ⟨h.1, _, h.2, rfl⟩
 | fuel + 1, listed, a, w, h => by
   refine ⟨fun hr => ⟨_, h.1 hr, rfl⟩, fun i hi => ?_⟩
   have h1 := h.2 i hi
   unfold wpOp at h1
   unfold wpOpIn
   cases ho : ops[i]? with
   | none => rw [ho] at h1; exact zoz hd hQ fuel _ a w h1
   | some o =>
     rw [ho] at h1
     simp only at h1 ⊢
     split
     · rename_i hw
       rw [if_pos hw] at h1
       have hom : o ∈ ops.toList := by simpa using Array.mem_of_getElem? ho
       rcases h1 with h1 | ⟨-, h1⟩
       · refine Oper.wpIn_mono (fun a' w' hh => ?_) (op_in (ds := ds) (hd o hom) hQ h1)
         obtain ⟨a0, h2, rfl⟩ := hh
         exact zoz hd hQ fuel _ a0 w' h2
       · exact absurd h1 hQ
     · rename_i hw
       rw [if_neg hw] at h1
       refine ⟨fun _ _ => trivial, ?_⟩
       rw [zka]
       exact zoz hd hQ fuel _ _ w h1
theorem zry {Qa Qb : Exit → Act → World → Prop} (hq : ∀ e a w, Qa e a w → Qb e a w) {a1 : Act} {w1 : World} {K : Act → World → Prop} (h : o.wpIn (FW r) n P a1 w1 K Qa) : o.wpIn (FW r) n P a1 w1 K Qb := by
 refine ⟨h.1, ?_⟩
 have h4 := h.2
 generalize (Oper.semAt (FW r).round a1.eval o).run P w1 = res at h4 ⊢
 cases res with
 | ok nx w' =>
   cases nx <;> simp only [Oper.uponIn] at h4 ⊢ <;> try exact h4
   case enter f args =>
    refine ⟨h4.1, h4.2.mono fun e w'' he => ?_⟩
    cases e with
    | returned v => exact he
    | panicked c => exact hq _ _ _ he
    | outgrown => obtain ⟨a2, w2, h⟩ := he; exact ⟨a2, w2, hq _ _ _ h⟩
   case round l f tmps assign body =>
    refine ⟨h4.1, RoundIn.mono h4.2 fun e w'' he => ?_⟩
    cases e with
    | returned v => exact he
    | panicked c => exact hq _ _ _ he
    | outgrown => obtain ⟨a2, w2, h⟩ := he; exact ⟨a2, w2, hq _ _ _ h⟩
 | halt x w' =>
   cases x <;> simp only [Oper.uponIn] at h4 ⊢ <;> try exact h4
   case panic v => exact hq _ _ _ h4
theorem zoy {Qa Qb : Exit → Act → World → Prop} {ops : Array Oper} (hq : ∀ e a w, Qa e a w → Qb e a w) : ∀ (fuel : Nat) (listed : Array Bool) (a1 : Act) (w1 : World), wpAnyIn (FW r) n P .any ops Qa fuel listed a1 w1 → wpAnyIn (FW r) n P .any ops Qb fuel listed a1 w1 := by
 intro fuel
 induction fuel with
 | zero => intro listed a1 w1 h; exact ⟨h.1, hq _ _ _ h.2⟩
 | succ fuel ih =>
   intro listed a1 w1 h
   refine ⟨fun hr => hq _ _ _ (h.1 hr), fun i hi => ?_⟩
   have := h.2 i hi
   unfold wpOpIn at this ⊢
   split
   · rename_i ho; rw [ho] at this; exact ih _ _ _ this
   · rename_i o ho
     rw [ho] at this
     simp only at this
     split
     · rename_i hw; rw [if_pos hw] at this; exact Oper.wpIn_mono (fun a' w' hh => ih _ _ _ hh) (zry hq this)
     · rename_i hw; rw [if_neg hw] at this; exact ⟨this.1, ih _ _ _ this.2⟩
theorem zrz {a : Act} {K : Act → World → Prop} (hd : zcr o = false) (h : o.wp P a w K (fun _ _ _ => False)) : o.wpIn (FW r) n P a w K Q := by
 have h2 := op_in (r := r) (n := n) (ds := []) hd (fun ⟨_, _, h⟩ => h) h
 rw [zzw] at h2
 exact Oper.wpIn_mono (fun a' w' hh => by
  obtain ⟨a0, hK, rfl⟩ := hh
  rw [zzw]; exact hK) (zry (fun e a w hq => by obtain ⟨_, h, _⟩ := hq; exact h.elim) h2)
def mark (D : Nat) : Deferred := { target := .collected D, args := #[] }
theorem zbr {b : Frame} {a : Act} {k : List Item} {cs : List Frame} {c : Code} : step P (lone (b.atR a (.code (.scope c) :: k)) cs w) = .next (lone (b.atR a (.code c :: .inScope c :: k)) cs w) :=
 step_lone_go (by simp [stepG, stepG.exec, Frame.atR])
theorem zjo {b : Frame} {a : Act} {k : List Item} {cs : List Frame} {c : Code} : step P (lone (b.atR a (.inScope c :: k)) cs w) = .next (lone (b.atR a k) cs w) :=
 step_lone_go (by simp [stepG, stepG.exec, Frame.atR])
theorem zs9 {F : Fence} {c : Code} {a : Act} (h : c.wpIn F n P (Exit.noGoto Q) a w) : (Code.scope c).wpIn F n P Q a w := by
 intro b k cs hro hb hr
 have h0 : (lone (b.atR a (.code (.scope c) :: k)) cs w).fenced P F := fenced_calm hb hr rfl
 obtain ⟨e, a₁, w₁, hq, harr⟩ := h b (.inScope c :: k) cs hro hb hr
 cases e with
 | normal => exact ⟨.normal, a₁, w₁, hq, .head h0 zbr (StepsIn.trans harr (.one (fenced_calm hb hr rfl) zjo))⟩
 | exit id' =>
   have hx : exitTo id' (.inScope c :: k) = exitTo id' k := by simp [exitTo]
   exact ⟨.exit id', a₁, w₁, hq, fun k' hk => .head h0 zbr (harr.1 k' (by rw [hx]; exact hk)),
    fun hr' hk => let ⟨k₁, h1, h2⟩ := harr.2 hr' (by rw [hx]; exact hk); ⟨k₁, h1, .head h0 zbr h2⟩⟩
 | goto l => exact hq.elim
 | ret => exact ⟨_, a₁, w₁, hq, .of_steps (.one h0 zbr) harr⟩
 | panic ch => exact ⟨_, a₁, w₁, hq, .of_steps (.one h0 zbr) harr⟩
 | outgrown => exact ⟨_, a₁, w₁, hq, .of_steps (.one h0 zbr) harr⟩
theorem zsb : ∀ (l : List Value) (n : Nat) (v : Value), zj0 l n v = l.set n v
 | [], _, _ => rfl
 | _ :: _, 0, _ => rfl
 | x :: l, n + 1, v => by simp only [zj0, z2a, zsb l n v]
theorem zh8 : ∀ (ps : List Tmp) (as' : List Value) (t : Array Value), ((ps.zip as').foldl (fun (tmps : Array Value) (x : Tmp × Value) => tmps.setIfInBounds x.1 x.2) t).toList = zj9 t.toList ps as'
 | [], as', t => by cases as' <;> rfl
 | p :: ps, [], t => by simp [zj9]
 | p :: ps, v :: as', t => by
   rw [z3d, List.foldl_cons, zh8 ps as']
   simp only [zj9, zsb, Array.toList_setIfInBounds]
theorem Same.put (w : World) (r : Nat) (o : Obj) : Same w (w.putObj r o) := ⟨rfl, rfl, rfl, zy9 _⟩
theorem Same.alloc (w : World) (o : Obj) : Same w (w.alloc o) := ⟨rfl, rfl, rfl, zy9 _⟩
end
end Go.Proofs.YtacglpinmpncaaaGreat
