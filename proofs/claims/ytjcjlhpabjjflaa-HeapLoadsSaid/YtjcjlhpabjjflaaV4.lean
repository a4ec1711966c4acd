/- Verification conditions of functions, written by program (vgen.py) and held against the program by the kernel. -/
import Derived.Test.YtjcjlhpabjjflaaEf
import Derived.Test.YtjcjlhpabjjflaaV0
set_option linter.unusedVariables false
set_option maxRecDepth 100000
namespace Go.Proofs.Ytjcjlhpabjjflaa
open Go Go.Proofs
def H86 : Hn := ⟨[], [], []⟩
def VC86 (x : Int) (h : Heap) (R : Value → Heap → Prop) : Prop :=
  R (.bool (x != x)) h
theorem V86 (x : Int) (h : Heap) (R : Value → Heap → Prop) (hh : VC86 x h R) : Run Try.prog 86 [.int .i64 x] h R :=
  fun_sound2 mixV Try.func86 (by kernel_rfl) (H := H86) (by kernel_rfl) hh
end Go.Proofs.Ytjcjlhpabjjflaa
