/- The engine, part a: heap-only predicates for the model's operations and for calls (sound over any program). -/
import Derived.WalkKit
import Derived.Orders
import Derived.KernelRfl
namespace Go.Proofs.Ytjcjlhpabjjflaa
open Go

/- ## The heap -/
abbrev Heap := Array Obj

def hcell (h : Heap) (a : Addr) : Option Value :=
  match h[a.block]? with
  | some (.cells c _ _) => if a.spot.isSome then none else c[a.off]?
  | _ => none
def hshape (h : Heap) (r : Nat) : Option (TypeId × Nat) :=
  match h[r]? with
  | some (.cells c elem _) => some (elem, c.size)
  | _ => none
def hfroz (h : Heap) (a : Addr) : Bool :=
  match h[a.block]? with
  | some (.cells _ _ (lo, hi)) => lo ≤ a.off && a.off < hi
  | _ => false
def hset (h : Heap) (a : Addr) (v : Value) : Heap :=
  h.modify a.block fun
    | .cells c elem frozen => .cells (if a.spot.isSome then c else c.setIfInBounds a.off v) elem frozen
    | o => o
def isCells : Obj → Bool
  | .cells .. => true
  | _ => false
def single : Value → Bool
  | .agg _ | .tuple _ => false
  | _ => true

/- What a step leaves alone beside the heap. -/
structure Same (w w' : World) : Prop where
  tape : w'.tape = w.tape
  os : w'.os = w.os
  output : w'.output = w.output
  drawn : w.drawn ≤ w'.drawn
theorem Same.refl (w : World) : Same w w := ⟨rfl, rfl, rfl, Nat.le_refl _⟩
theorem Same.trans {a b c : World} (h : Same a b) (k : Same b c) : Same a c :=
  ⟨k.tape.trans h.tape, k.os.trans h.os, k.output.trans h.output, Nat.le_trans h.drawn k.drawn⟩

/- ## Runs of the model's small steps, over the heap alone -/
def SWp {α : Type} (P : Program) : Sem α → Heap → (α → Heap → Prop) → Prop
  | .pure a, h, K => K a h
  | .load _ a k, h, K => ∃ v, hcell h a = some v ∧ SWp P (k v) h K
  | .store _ a v k, h, K => single v = true ∧ (∃ u, hcell h a = some u) ∧ hfroz h a = false ∧ SWp P k (hset h a v) K
  | .new o k, h, K => SWp P (k h.size) (h.push o) K
  | .shape r k, h, K => SWp P (k (hshape h r)) h K
  | .freeze .., _, _ => False
  | .frozen a k, h, K => SWp P (k (hfroz h a)) h K
  | .getObj r k, h, K => ∃ o, h[r]? = some o ∧ isCells o = false ∧ SWp P (k o) h K
  | .setObj r o k, h, K => (∃ u, h[r]? = some u ∧ isCells u = false) ∧ SWp P k (h.setIfInBounds r o) K
  | .choose q k, h, K => (q.forced = true → SWp P (k 0) h K) ∧ (q.forced = false → ∀ t, SWp P (k (q.cut t)) h K)
  | .sys .., _, _ => False
  | .program k, h, K => SWp P (k P) h K
  | .mark _ k, h, K => SWp P k h K
  | .halt _, _, _ => False

theorem SWp.sound {α : Type} {P : Program} {s : Sem α} : ∀ {h : Heap} {K : α → Heap → Prop}, SWp P s h K → ∀ w : World, w.heap = h →
    ∃ a w', s.run P w = .ok a w' ∧ K a w'.heap ∧ Same w w' := by
  induction s with
  | pure a => intro h K hs w hw; exact ⟨a, w, rfl, hw ▸ hs, .refl w⟩
  | load m a k ih =>
    intro h K hs w hw
    obtain ⟨v, hv, hk⟩ := hs
    subst hw
    have hv' : w.cell? a = some v := hv
    simp only [Sem.run, hv']
    exact ih v hk w rfl
  | store m a v k ih =>
    intro h K hs w hw
    obtain ⟨h1, ⟨u, hu⟩, hf, hk⟩ := hs
    subst hw
    have hu' : w.cell? a = some u := hu
    have hf' : w.frozen? a = false := hf
    obtain ⟨x, w', hr, hK, hS⟩ := ih hk (w.setCell a v) rfl
    refine ⟨x, w', ?_, hK, ⟨hS.tape, hS.os, hS.output, hS.drawn⟩⟩
    rw [← hr]
    cases v <;> simp [single] at h1 <;> simp [Sem.run, hu', hf']
  | new o k ih =>
    intro h K hs w hw
    subst hw
    obtain ⟨x, w', hr, hK, hS⟩ := ih w.heap.size hs { w with heap := w.heap.push o } rfl
    exact ⟨x, w', hr, hK, ⟨hS.tape, hS.os, hS.output, hS.drawn⟩⟩
  | shape r k ih =>
    intro h K hs w hw
    subst hw
    exact ih (w.shape? r) hs w rfl
  | freeze a n k ih => intro h K hs; exact hs.elim
  | frozen a k ih =>
    intro h K hs w hw
    subst hw
    exact ih (w.frozen? a) hs w rfl
  | getObj r k ih =>
    intro h K hs w hw
    subst hw
    obtain ⟨o, ho, hc, hk⟩ := hs
    obtain ⟨x, w', hr, hK, hS⟩ := ih o hk w rfl
    refine ⟨x, w', ?_, hK, hS⟩
    rw [← hr]
    cases o <;> simp [isCells] at hc <;> simp [Sem.run, ho]
  | setObj r o k ih =>
    intro h K hs w hw
    subst hw
    obtain ⟨⟨u, hu, hc⟩, hk⟩ := hs
    obtain ⟨x, w', hr, hK, hS⟩ := ih hk { w with heap := w.heap.setIfInBounds r o } rfl
    refine ⟨x, w', ?_, hK, ⟨hS.tape, hS.os, hS.output, hS.drawn⟩⟩
    rw [← hr]
    cases u <;> simp [isCells] at hc <;> simp [Sem.run, hu]
  | choose q k ih =>
    intro h K hs w hw
    subst hw
    by_cases hq : q.forced = true
    · obtain ⟨x, w', hr, hK, hS⟩ := ih 0 (hs.1 hq) w rfl
      exact ⟨x, w', by simp only [Sem.run, hq, if_true]; exact hr, hK, hS⟩
    · have hq' : q.forced = false := by simpa using hq
      obtain ⟨x, w', hr, hK, hS⟩ := ih (q.cut (w.tape w.drawn q)) (hs.2 hq' _) { w with drawn := w.drawn + 1 } rfl
      exact ⟨x, w', by simp only [Sem.run, hq', Bool.false_eq_true, if_false]; exact hr, hK, ⟨hS.tape, hS.os, hS.output, Nat.le_trans (Nat.le_succ _) hS.drawn⟩⟩
  | sys c k ih => intro h K hs; exact hs.elim
  | program k ih => intro h K hs w hw; exact ih P hs w hw
  | mark m k ih => intro h K hs w hw; exact ih hs w hw
  | halt x => intro h K hs; exact hs.elim

theorem SWp.mono {α : Type} {P : Program} {s : Sem α} : ∀ {h : Heap} {K K' : α → Heap → Prop}, (∀ a h', K a h' → K' a h') → SWp P s h K → SWp P s h K' := by
  induction s with
  | pure a => intro h K K' hk hs; exact hk _ _ hs
  | load m a k ih => intro h K K' hk hs; obtain ⟨v, hv, h2⟩ := hs; exact ⟨v, hv, ih v hk h2⟩
  | store m a v k ih => intro h K K' hk hs; exact ⟨hs.1, hs.2.1, hs.2.2.1, ih hk hs.2.2.2⟩
  | new o k ih => intro h K K' hk hs; exact ih _ hk hs
  | shape r k ih => intro h K K' hk hs; exact ih _ hk hs
  | freeze a n k ih => intro h K K' hk hs; exact hs
  | frozen a k ih => intro h K K' hk hs; exact ih _ hk hs
  | getObj r k ih => intro h K K' hk hs; obtain ⟨o, ho, hc, h2⟩ := hs; exact ⟨o, ho, hc, ih o hk h2⟩
  | setObj r o k ih => intro h K K' hk hs; exact ⟨hs.1, ih hk hs.2⟩
  | choose q k ih => intro h K K' hk hs; exact ⟨fun hq => ih 0 hk (hs.1 hq), fun hq t => ih _ hk (hs.2 hq t)⟩
  | sys c k ih => intro h K K' hk hs; exact hs
  | program k ih => intro h K K' hk hs; exact ih P hk hs
  | mark m k ih => intro h K K' hk hs; exact ih hk hs
  | halt x => intro h K K' hk hs; exact hs

theorem SWp.bind {α β : Type} {P : Program} {s : Sem α} {f : α → Sem β} : ∀ {h : Heap} {K : β → Heap → Prop},
    SWp P s h (fun a h' => SWp P (f a) h' K) → SWp P (s >>= f) h K := by
  show ∀ {h : Heap} {K : β → Heap → Prop}, SWp P s h (fun a h' => SWp P (f a) h' K) → SWp P (s.bind f) h K
  induction s with
  | pure a => intro h K hs; exact hs
  | load m a k ih => intro h K hs; obtain ⟨v, hv, h2⟩ := hs; exact ⟨v, hv, ih v h2⟩
  | store m a v k ih => intro h K hs; exact ⟨hs.1, hs.2.1, hs.2.2.1, ih hs.2.2.2⟩
  | new o k ih => intro h K hs; exact ih _ hs
  | shape r k ih => intro h K hs; exact ih _ hs
  | freeze a n k ih => intro h K hs; exact hs
  | frozen a k ih => intro h K hs; exact ih _ hs
  | getObj r k ih => intro h K hs; obtain ⟨o, ho, hc, h2⟩ := hs; exact ⟨o, ho, hc, ih o h2⟩
  | setObj r o k ih => intro h K hs; exact ⟨hs.1, ih hs.2⟩
  | choose q k ih => intro h K hs; exact ⟨fun hq => ih 0 (hs.1 hq), fun hq t => ih _ (hs.2 hq t)⟩
  | sys c k ih => intro h K hs; exact hs
  | program k ih => intro h K hs; exact ih P hs
  | mark m k ih => intro h K hs; exact ih hs
  | halt x => intro h K hs; exact hs

/-- A step that leaves the heap alone, said by its value. -/
theorem SWp.pure_iff {α : Type} {P : Program} {a : α} {h : Heap} {K : α → Heap → Prop} : SWp P (pure a) h K ↔ K a h := Iff.rfl

/- ## Calls -/
/-- Function f may be called: it has a body of its own. -/
def Callable (P : Program) (f : FuncId) : Prop := ∃ fn, P.funcs[f]? = some fn ∧ (fn.name == "runtime.NumGoroutine") = false ∧ fn.body.isNone = false

def Run (P : Program) (f : FuncId) (args : List Value) (h : Heap) (R : Value → Heap → Prop) : Prop :=
  Callable P f ∧ ∀ w : World, w.heap = h → Calls P f args.toArray w fun e w' => ∃ v, e = .returned v ∧ R v w'.heap ∧ Same w w'

theorem Run.mono {P : Program} {f : FuncId} {args : List Value} {h : Heap} {R R' : Value → Heap → Prop} (hr : Run P f args h R)
    (hi : ∀ v h', R v h' → R' v h') : Run P f args h R' :=
  ⟨hr.1, fun w hw => (hr.2 w hw).mono fun _ _ ⟨v, he, hR, hS⟩ => ⟨v, he, hi _ _ hR, hS⟩⟩

theorem run_callFunc {P : Program} {f : FuncId} (hc : Callable P f) (args : Array Value) (w : World) :
    (callFunc f args).run P w = .ok (.enter f args) w := by
  obtain ⟨fn, hf, hn, hb⟩ := hc
  unfold callFunc
  show Sem.run P (Sem.bind program _) w = _
  simp only [program, Sem.bind, Sem.run, hf]
  rw [if_neg (by rw [hn]; simp), if_neg (by rw [hb]; simp)]
  rfl

end Go.Proofs.Ytjcjlhpabjjflaa
