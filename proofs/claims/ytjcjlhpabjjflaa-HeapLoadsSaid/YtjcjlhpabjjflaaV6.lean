/- Verification conditions of functions, written by program (pvc.py) and held against the program by the kernel. -/
import Derived.Test.YtjcjlhpabjjflaaEk
import Derived.Test.YtjcjlhpabjjflaaProg
set_option linter.unusedVariables false
set_option maxRecDepth 100000
namespace Go.Proofs.Ytjcjlhpabjjflaa
open Go Go.Proofs
theorem mixV6 : Try.prog.follows .mixedOrders = true := by kernel_rfl
/- slices.Values[[]bottomry/api.Timer,bottomry/api.Timer] -/
def H62 : Hn := ⟨[], [], []⟩
def VC62 (sA : Option Addr) (sN : Nat) (sC : Nat) (h : Heap) (R : Value → Heap → Prop) : Prop :=
  newB h (.cells #[.slice sA sN sC] 59) (fun m1 h1 => R (.func (.func 78) #[] #[.pointer (some ⟨m1, 0, none⟩)]) h1)
theorem V62 (sA : Option Addr) (sN : Nat) (sC : Nat) (h : Heap) (R : Value → Heap → Prop) (hh : VC62 sA sN sC h R) : Run Try.prog 62 [.slice sA sN sC] h R :=
  fun_sound2 mixV6 Try.func62 (by kernel_rfl) (H := H62) (by kernel_rfl) hh

/- slices.Values[[]bottomry/api.Timer,bottomry/api.Timer]$1 -/
def H78 : Hn := ⟨[(1, [(7, .i .i64)])], [], []⟩
def VC78 (yield : Value) (a1 : Option Addr) (h : Heap) (R : Value → Heap → Prop) : Prop :=
  onPtr a1 (fun m1 m2 => ∃ p1 : Option Addr, ∃ m3 : Nat, ∃ m4 : Nat, hcell h ⟨m1, m2, none⟩ = some (.slice p1 m3 m4) ∧ (∃ k1 : Int → Heap → Prop, ∃ z1 : Int → Heap → Nat, k1 0 h ∧ (∀ g1 : Nat → Value, ∀ h1 : Heap, ∀ x1 : Int, k1 x1 h1 → (bif decide (x1 < (m3 : Int)) then onPtr p1 (fun m5 m6 => 0 ≤ x1 ∧ x1 < (m3 : Int) ∧ (∃ x2 : Int, hcell h1 ⟨m5, m6 + Int.toNat x1 * 3, none⟩ = some (.int .i64 x2) ∧ (∃ x3 : Int, hcell h1 ⟨m5, m6 + Int.toNat x1 * 3 + 1, none⟩ = some (.int .i64 x3) ∧ (∃ x4 : Int, hcell h1 ⟨m5, m6 + Int.toNat x1 * 3 + 2, none⟩ = some (.int .i64 x4) ∧ (newB h1 (.cells #[.int .i64 0, .int .i64 0, .int .i64 0] 30) (fun m7 h2 => storeS m7 0 [.int .i64 x2, .int .i64 x3, .int .i64 x4] 0 h2 (fun h3 => ∃ x5 : Int, hcell h3 ⟨m7, 0, none⟩ = some (.int .i64 x5) ∧ (∃ x6 : Int, hcell h3 ⟨m7, 1, none⟩ = some (.int .i64 x6) ∧ (∃ x7 : Int, hcell h3 ⟨m7, 2, none⟩ = some (.int .i64 x7) ∧ (CallVI Try.prog yield [.agg #[.int .i64 x5, .int .i64 x6, .int .i64 x7]] h3 (fun v1 h4 => ∃ b1 : Bool, v1 = .bool b1 ∧ (bif !b1 then R (.tuple #[]) h4 else ([] : List Nat) = ([] : List Nat) ∧ (k1 (IntKind.wrap .i64 (x1 + 1)) h4 ∧ z1 (IntKind.wrap .i64 (x1 + 1)) h4 < z1 x1 h1))))))))))))) else R (.tuple #[]) h1))))
theorem V78 (yield : Value) (a1 : Option Addr) (h : Heap) (R : Value → Heap → Prop) (hh : VC78 yield a1 h R) : Run Try.prog 78 [yield, .pointer a1] h R :=
  funI_sound2 mixV6 Try.func78 (by kernel_rfl) (H := H78) (by kernel_rfl) hh

/- slices.AppendSeq[[]bottomry/api.Timer,bottomry/api.Timer] -/
def H84 : Hn := ⟨[], [], [(7, 30)]⟩
def VC84 (sA : Option Addr) (sN : Nat) (sC : Nat) (seq : Value) (h : Heap) (R : Value → Heap → Prop) : Prop :=
  newB h (.cells #[.slice sA sN sC] 59) (fun m1 h1 => ∀ oR1 oB1 : Obj, ∀ oD1 : Ex → Obj, newB h1 (.deferred (some [])) (fun m2 h2 => newB h2 oR1 (fun m3 h3 => (∀ x1 : Int, ∀ x2 : Int, ∀ x3 : Int, ∀ h4 : Heap, ∀ R1 : Value → Heap → Prop, atO h4 m3 oR1 → (newB h4 (.cells #[.int .i64 0, .int .i64 0, .int .i64 0] 30) (fun m4 h5 => storeS m4 0 [.int .i64 x1, .int .i64 x2, .int .i64 x3] 0 h5 (fun h6 => ([] : List Nat) = [] ∧ (atO h6 m3 oR1 ∧ setO h6 m3 oB1 (fun h7 => ∃ p1 : Option Addr, ∃ m5 : Nat, ∃ m6 : Nat, hcell h7 ⟨m1, 0, none⟩ = some (.slice p1 m5 m6) ∧ (∃ x4 : Int, hcell h7 ⟨m4, 0, none⟩ = some (.int .i64 x4) ∧ (∃ x5 : Int, hcell h7 ⟨m4, 1, none⟩ = some (.int .i64 x5) ∧ (∃ x6 : Int, hcell h7 ⟨m4, 2, none⟩ = some (.int .i64 x6) ∧ (newB h7 (.cells #[.int .i64 x4, .int .i64 x5, .int .i64 x6] 30) (fun m7 h8 => appK Try.prog #[59, 59] 59 (.slice p1 m5 m6) (.slice (some ⟨m7, 0, none⟩) 1 1) h8 (fun v1 h9 => ∃ p2 : Option Addr, ∃ m8 : Nat, ∃ m9 : Nat, v1 = .slice p2 m8 m9 ∧ (stK h9 ⟨m1, 0, none⟩ (.slice p2 m8 m9) (fun h10 => atO h10 m3 oB1 ∧ setO h10 m3 oR1 (R1 (.bool true))))))))))))))) → YRun Try.prog m3 [.agg #[.int .i64 x1, .int .i64 x2, .int .i64 x3]] h4 R1) → CallV Try.prog seq [.func (.yield m3) #[] #[]] h3 (fun _ h11 => (atO h11 m3 oR1 ∧ (∀ oX1 : Obj, setO h11 m3 oX1 (fun h12 => ∃ p3 : Option Addr, ∃ m10 : Nat, ∃ m11 : Nat, hcell h12 ⟨m1, 0, none⟩ = some (.slice p3 m10 m11) ∧ (atO h12 m2 (.deferred (some [])) ∧ setO h12 m2 (.deferred none) (fun h13 => R (.slice p3 m10 m11) h13))))) ∨ False))))
theorem V84 (sA : Option Addr) (sN : Nat) (sC : Nat) (seq : Value) (h : Heap) (R : Value → Heap → Prop) (hh : VC84 sA sN sC seq h R) : Run Try.prog 84 [.slice sA sN sC, seq] h R :=
  funI_sound2 mixV6 Try.func84 (by kernel_rfl) (H := H84) (by kernel_rfl) hh

/- slices.Collect[bottomry/api.Timer] -/
def H76 : Hn := ⟨[], [], []⟩
def VC76 (seq : Value) (h : Heap) (R : Value → Heap → Prop) : Prop :=
  Run Try.prog 84 [.slice none 0 0, seq] h (fun v1 h1 => ∃ p1 : Option Addr, ∃ m1 : Nat, ∃ m2 : Nat, v1 = .slice p1 m1 m2 ∧ (R (.slice p1 m1 m2) h1))
theorem V76 (seq : Value) (h : Heap) (R : Value → Heap → Prop) (hh : VC76 seq h R) : Run Try.prog 76 [seq] h R :=
  fun_sound2 mixV6 Try.func76 (by kernel_rfl) (H := H76) (by kernel_rfl) hh

/- slices.SortedFunc[bottomry/api.Timer] -/
def H61 : Hn := ⟨[], [], []⟩
def VC61 (seq : Value) (cmp : Value) (h : Heap) (R : Value → Heap → Prop) : Prop :=
  Run Try.prog 76 [seq] h (fun v1 h1 => ∃ p1 : Option Addr, ∃ m1 : Nat, ∃ m2 : Nat, v1 = .slice p1 m1 m2 ∧ (Run Try.prog 77 [.slice p1 m1 m2, cmp] h1 (fun v2 h2 => v2 = .tuple #[] ∧ (R (.slice p1 m1 m2) h2))))
theorem V61 (seq : Value) (cmp : Value) (h : Heap) (R : Value → Heap → Prop) (hh : VC61 seq cmp h R) : Run Try.prog 61 [seq, cmp] h R :=
  fun_sound2 mixV6 Try.func61 (by kernel_rfl) (H := H61) (by kernel_rfl) hh

end Go.Proofs.Ytjcjlhpabjjflaa
