/- The symbolic engine, part b: what abstract values stand for; calls; code. -/
import Derived.Test.YtobdpeelaadkbaaGreatHq1
import Derived.Test.YtobdpeelaadkbaaGreatProg
import Derived.ChangeKeysEq
import Derived.MapKept
import Derived.ProofKit
import Derived.Deep.Slices
import Derived.ChangeMaps4
import Derived.RangeFuncIn
import Derived.RangeFuncLeaves
import Derived.RangeFuncRecord
import Derived.OrdersIn
import Derived.TacticsIn
set_option linter.unusedVariables false
namespace Go.Proofs.YtobdpeelaadkbaaGreat
section
set_option maxRecDepth 100000
theorem mixV1 : Tryz.prog.follows .mixedOrders = true := by kernel_rfl
def H258 : Hn := ⟨[(5, [(24, .i .i64)])], [], []⟩
def VC258 (n : Int) (needsA : Option Addr) (needsN : Nat) (needsC : Nat) (h : zab) (R : Value → zab → Prop) : Prop :=
 bif decide (n < 0) then R (.pointer none) h else (bif decide (n > 64) then R (.pointer none) h else (bif decide ((needsN : Int) > 256) then R (.pointer none) h else zhx h (.cells #[.int .i64 n, .slice none 0 0, .slice none 0 0, .slice none 0 0, .slice none 0 0, .slice none 0 0, .slice none 0 0, .slice none 0 0, .slice none 0 0, .slice none 0 0, .slice none 0 0, .slice none 0 0, .slice none 0 0, .slice none 0 0, .slice none 0 0, .slice none 0 0, .slice none 0 0, .slice none 0 0, .slice none 0 0, .slice none 0 0, .slice none 0 0, .slice none 0 0, .slice none 0 0, .slice none 0 0, .slice none 0 0, .slice none 0 0, .slice none 0 0, .slice none 0 0, .slice none 0 0, .slice none 0 0, .slice none 0 0, .slice none 0 0, .slice none 0 0, .slice none 0 0, .slice none 0 0, .slice none 0 0, .slice none 0 0, .slice none 0 0, .slice none 0 0, .slice none 0 0, .slice none 0 0, .slice none 0 0, .slice none 0 0, .slice none 0 0, .slice none 0 0, .slice none 0 0, .slice none 0 0, .slice none 0 0, .slice none 0 0, .slice none 0 0, .slice none 0 0, .slice none 0 0, .slice none 0 0, .slice none 0 0, .slice none 0 0, .slice none 0 0, .slice none 0 0, .slice none 0 0, .slice none 0 0, .slice none 0 0, .slice none 0 0, .slice none 0 0, .slice none 0 0, .slice none 0 0, .slice none 0 0, .slice none 0 0, .int .i64 0, .int .i64 0, .int .i64 0, .int .i64 0, .int .i64 0, .int .i64 0, .int .i64 0, .int .i64 0, .int .i64 0, .int .i64 0, .int .i64 0, .int .i64 0, .int .i64 0, .int .i64 0, .int .i64 0, .int .i64 0, .int .i64 0, .int .i64 0, .int .i64 0, .int .i64 0, .int .i64 0, .int .i64 0, .int .i64 0, .int .i64 0, .int .i64 0, .int .i64 0, .int .i64 0, .int .i64 0, .int .i64 0, .int .i64 0, .int .i64 0, .int .i64 0, .int .i64 0, .int .i64 0, .int .i64 0, .int .i64 0, .int .i64 0, .int .i64 0, .int .i64 0, .int .i64 0, .int .i64 0, .int .i64 0, .int .i64 0, .int .i64 0, .int .i64 0, .int .i64 0, .int .i64 0, .int .i64 0, .int .i64 0, .int .i64 0, .int .i64 0, .int .i64 0, .int .i64 0, .int .i64 0, .int .i64 0, .int .i64 0, .int .i64 0, .int .i64 0, .int .i64 0, .int .i64 0, .int .i64 0, .int .i64 0, .int .i64 0, .int .i64 0, .int .i64 0, .slice none 0 0, .slice none 0 0, .slice none 0 0, .slice none 0 0, .slice none 0 0, .slice none 0 0, .slice none 0 0, .slice none 0 0, .slice none 0 0, .slice none 0 0, .slice none 0 0, .slice none 0 0, .slice none 0 0, .slice none 0 0, .slice none 0 0, .slice none 0 0, .slice none 0 0, .slice none 0 0, .slice none 0 0, .slice none 0 0, .slice none 0 0, .slice none 0 0, .slice none 0 0, .slice none 0 0, .slice none 0 0, .slice none 0 0, .slice none 0 0, .slice none 0 0, .slice none 0 0, .slice none 0 0, .slice none 0 0, .slice none 0 0, .slice none 0 0, .slice none 0 0, .slice none 0 0, .slice none 0 0, .slice none 0 0, .slice none 0 0, .slice none 0 0, .slice none 0 0, .slice none 0 0, .slice none 0 0, .slice none 0 0, .slice none 0 0, .slice none 0 0, .slice none 0 0, .slice none 0 0, .slice none 0 0, .slice none 0 0, .slice none 0 0, .slice none 0 0, .slice none 0 0, .slice none 0 0, .slice none 0 0, .slice none 0 0, .slice none 0 0, .slice none 0 0, .slice none 0 0, .slice none 0 0, .slice none 0 0, .slice none 0 0, .slice none 0 0, .slice none 0 0, .slice none 0 0, .slice none 0 0] 303) (fun m1 h1 => ∃ k1 : Int → zab → Prop, ∃ z1 : Int → zab → Nat, k1 0 h1 ∧ (∀ g1 : Nat → Value, ∀ h2 : zab, ∀ x1 : Int, k1 x1 h2 → (bif decide (x1 < (needsN : Int)) then zbj needsA (fun m2 m3 => 0 ≤ x1 ∧ x1 < (needsN : Int) ∧ (∃ x2 : Int, hcell h2 ⟨m2, m3 + Int.toNat x1 * 2, none⟩ = some (.int .i64 x2) ∧ (∃ x3 : Int, hcell h2 ⟨m2, m3 + Int.toNat x1 * 2 + 1, none⟩ = some (.int .i64 x3) ∧ (zhx h2 (.cells #[.int .i64 0, .int .i64 0] 194) (fun m4 h3 => zc2 m4 0 [.int .i64 x2, .int .i64 x3] 0 h3 (fun h4 => 0 ≤ (0 : Int) ∧ (0 : Int) < 2 ∧ (∃ x4 : Int, hcell h4 ⟨m4, 0, none⟩ = some (.int .i64 x4) ∧ (Run Tryz.prog 302 [.pointer (some ⟨m1, 0, none⟩), .int .i64 x4] h4 (fun v1 h5 => ∃ b1 : Bool, v1 = .bool b1 ∧ (bif !b1 then R (.pointer none) h5 else 0 ≤ (1 : Int) ∧ (1 : Int) < 2 ∧ (∃ x5 : Int, hcell h5 ⟨m4, 1, none⟩ = some (.int .i64 x5) ∧ (Run Tryz.prog 302 [.pointer (some ⟨m1, 0, none⟩), .int .i64 x5] h5 (fun v2 h6 => ∃ b2 : Bool, v2 = .bool b2 ∧ (bif !b2 then R (.pointer none) h6 else 0 ≤ (0 : Int) ∧ (0 : Int) < 2 ∧ (∃ x6 : Int, hcell h6 ⟨m4, 0, none⟩ = some (.int .i64 x6) ∧ (0 ≤ (0 : Int) ∧ (0 : Int) < 2 ∧ (∃ x7 : Int, hcell h6 ⟨m4, 0, none⟩ = some (.int .i64 x7) ∧ (0 ≤ x7 ∧ x7 < 65 ∧ (∃ p1 : Option Addr, ∃ m5 : Nat, ∃ m6 : Nat, hcell h6 ⟨m1, 1 + Int.toNat x7 * 1, none⟩ = some (.slice p1 m5 m6) ∧ (0 ≤ (1 : Int) ∧ (1 : Int) < 2 ∧ (∃ x8 : Int, hcell h6 ⟨m4, 1, none⟩ = some (.int .i64 x8) ∧ (zhx h6 (.cells #[.int .i64 x8] 3) (fun m7 h7 => (∃ p2 : Option Addr, ∃ m8 : Nat, ∃ m9 : Nat, hcell h7 ⟨m1, 1 + Int.toNat x7 * 1, none⟩ = some (.slice p2 m8 m9) ∧ (Value.slice p2 m8 m9 = .slice p1 m5 m6)) ∧ ((∃ x9 : Int, hcell h7 ⟨m4, 0, none⟩ = some (.int .i64 x9) ∧ (Value.int .i64 x9 = .int .i64 x7)) ∧ ((∃ x10 : Int, hcell h7 ⟨m4, 0, none⟩ = some (.int .i64 x10) ∧ (Value.int .i64 x10 = .int .i64 x6)) ∧ (ze5 Tryz.prog #[111, 111] 111 (.slice p1 m5 m6) (.slice (some ⟨m7, 0, none⟩) 1 1) h7 (fun v3 h8 => ∃ p3 : Option Addr, ∃ m10 : Nat, ∃ m11 : Nat, v3 = .slice p3 m10 m11 ∧ ((∃ x11 : Int, hcell h8 ⟨m4, 0, none⟩ = some (.int .i64 x11) ∧ (Value.int .i64 x11 = .int .i64 x6)) ∧ (0 ≤ x6 ∧ x6 < 65 ∧ (stK h8 ⟨m1, 1 + Int.toNat x6 * 1, none⟩ (.slice p3 m10 m11) (fun h9 => 0 ≤ (1 : Int) ∧ (1 : Int) < 2 ∧ (∃ x12 : Int, hcell h9 ⟨m4, 1, none⟩ = some (.int .i64 x12) ∧ (0 ≤ (1 : Int) ∧ (1 : Int) < 2 ∧ (∃ x13 : Int, hcell h9 ⟨m4, 1, none⟩ = some (.int .i64 x13) ∧ (0 ≤ x13 ∧ x13 < 65 ∧ (∃ p4 : Option Addr, ∃ m12 : Nat, ∃ m13 : Nat, hcell h9 ⟨m1, 131 + Int.toNat x13 * 1, none⟩ = some (.slice p4 m12 m13) ∧ (0 ≤ (0 : Int) ∧ (0 : Int) < 2 ∧ (∃ x14 : Int, hcell h9 ⟨m4, 0, none⟩ = some (.int .i64 x14) ∧ (zhx h9 (.cells #[.int .i64 x14] 3) (fun m14 h10 => (∃ p5 : Option Addr, ∃ m15 : Nat, ∃ m16 : Nat, hcell h10 ⟨m1, 131 + Int.toNat x13 * 1, none⟩ = some (.slice p5 m15 m16) ∧ (Value.slice p5 m15 m16 = .slice p4 m12 m13)) ∧ ((∃ x15 : Int, hcell h10 ⟨m4, 1, none⟩ = some (.int .i64 x15) ∧ (Value.int .i64 x15 = .int .i64 x13)) ∧ ((∃ x16 : Int, hcell h10 ⟨m4, 1, none⟩ = some (.int .i64 x16) ∧ (Value.int .i64 x16 = .int .i64 x12)) ∧ (ze5 Tryz.prog #[111, 111] 111 (.slice p4 m12 m13) (.slice (some ⟨m14, 0, none⟩) 1 1) h10 (fun v4 h11 => ∃ p6 : Option Addr, ∃ m17 : Nat, ∃ m18 : Nat, v4 = .slice p6 m17 m18 ∧ ((∃ x17 : Int, hcell h11 ⟨m4, 1, none⟩ = some (.int .i64 x17) ∧ (Value.int .i64 x17 = .int .i64 x12)) ∧ (0 ≤ x12 ∧ x12 < 65 ∧ (stK h11 ⟨m1, 131 + Int.toNat x12 * 1, none⟩ (.slice p6 m17 m18) (fun h12 => 0 ≤ (0 : Int) ∧ (0 : Int) < 2 ∧ (∃ x18 : Int, hcell h12 ⟨m4, 0, none⟩ = some (.int .i64 x18) ∧ (0 ≤ x18 ∧ x18 < 65 ∧ (∃ x19 : Int, hcell h12 ⟨m1, 66 + Int.toNat x18 * 1, none⟩ = some (.int .i64 x19) ∧ (0 ≤ x18 ∧ x18 < 65 ∧ (stK h12 ⟨m1, 66 + Int.toNat x18 * 1, none⟩ (.int .i64 (IntKind.wrap .i64 (x19 + 1))) (fun h13 => k1 (IntKind.wrap .i64 (x1 + 1)) h13 ∧ z1 (IntKind.wrap .i64 (x1 + 1)) h13 < z1 x1 h2)))))))))))))))))))))))))))))))))))))))))))))))))))))) else R (.pointer (some ⟨m1, 0, none⟩)) h2)))))
theorem V258 (n : Int) (needsA : Option Addr) (needsN : Nat) (needsC : Nat) (h : zab) (R : Value → zab → Prop) (hh : VC258 n needsA needsN needsC h R) : Run Tryz.prog 258 [.int .i64 n, .slice needsA needsN needsC] h R :=
 zap mixV1 Tryz.func258 (by kernel_rfl) (H := H258) (by kernel_rfl) hh
def H259 : Hn := ⟨[(3, [(3, .sl), (5, .i .i64)]), (7, [(3, .sl), (4, .sl)]), (12, [(3, .sl), (47, .i .i64)])], [], []⟩
def VC259 (w : Option Addr) (h : zab) (R : Value → zab → Prop) : Prop :=
 ∃ k1 : Option Addr → Nat → Nat → Int → zab → Prop, ∃ z1 : Option Addr → Nat → Nat → Int → zab → Nat, k1 none 0 0 1 h ∧ (∀ g1 : Nat → Value, ∀ h1 : zab, ∀ p1 : Option Addr, ∀ m1 : Nat, ∀ m2 : Nat, ∀ x1 : Int, k1 p1 m1 m2 x1 h1 → zbj w (fun m3 m4 => ∃ x2 : Int, hcell h1 ⟨m3, m4, none⟩ = some (.int .i64 x2) ∧ (bif decide (x1 ≤ x2) then zbj w (fun m5 m6 => 0 ≤ x1 ∧ x1 < 65 ∧ (∃ x3 : Int, hcell h1 ⟨m5, m6 + 66 + Int.toNat x1 * 1, none⟩ = some (.int .i64 x3) ∧ (bif x3 == 0 then zhx h1 (.cells #[.int .i64 x1] 3) (fun m7 h2 => ze5 Tryz.prog #[111, 111] 111 (.slice p1 m1 m2) (.slice (some ⟨m7, 0, none⟩) 1 1) h2 (fun v1 h3 => ∃ p2 : Option Addr, ∃ m8 : Nat, ∃ m9 : Nat, v1 = .slice p2 m8 m9 ∧ (k1 p2 m8 m9 (IntKind.wrap .i64 (x1 + 1)) h3 ∧ z1 p2 m8 m9 (IntKind.wrap .i64 (x1 + 1)) h3 < z1 p1 m1 m2 x1 h1))) else k1 p1 m1 m2 (IntKind.wrap .i64 (x1 + 1)) h1 ∧ z1 p1 m1 m2 (IntKind.wrap .i64 (x1 + 1)) h1 < z1 p1 m1 m2 x1 h1))) else ∃ k2 : Option Addr → Nat → Nat → Option Addr → Nat → Nat → zab → Prop, ∃ z2 : Option Addr → Nat → Nat → Option Addr → Nat → Nat → zab → Nat, k2 p1 m1 m2 none 0 0 h1 ∧ (∀ g2 : Nat → Value, ∀ h4 : zab, ∀ p3 : Option Addr, ∀ m10 : Nat, ∀ m11 : Nat, ∀ p4 : Option Addr, ∀ m12 : Nat, ∀ m13 : Nat, k2 p3 m10 m11 p4 m12 m13 h4 → (bif decide ((m10 : Int) > 0) then Run Tryz.prog 303 [.slice p3 m10 m11] h4 (fun v2 h5 => ∃ x4 : Int, v2 = .int .i64 x4 ∧ (zhx h5 (.cells #[.int .i64 0] 3) (fun m14 h6 => stK h6 ⟨m14, 0, none⟩ (.int .i64 x4) (fun h7 => Run Tryz.prog 304 [.slice p3 m10 m11, .func (.func 305) #[] #[.pointer (some ⟨m14, 0, none⟩)]] h7 (fun v3 h8 => ∃ p5 : Option Addr, ∃ m15 : Nat, ∃ m16 : Nat, v3 = .slice p5 m15 m16 ∧ (∃ x5 : Int, hcell h8 ⟨m14, 0, none⟩ = some (.int .i64 x5) ∧ (zhx h8 (.cells #[.int .i64 x5] 3) (fun m17 h9 => ze5 Tryz.prog #[111, 111] 111 (.slice p4 m12 m13) (.slice (some ⟨m17, 0, none⟩) 1 1) h9 (fun v4 h10 => ∃ p6 : Option Addr, ∃ m18 : Nat, ∃ m19 : Nat, v4 = .slice p6 m18 m19 ∧ (∃ x6 : Int, hcell h10 ⟨m14, 0, none⟩ = some (.int .i64 x6) ∧ (zbj w (fun m20 m21 => 0 ≤ x6 ∧ x6 < 65 ∧ (∃ p7 : Option Addr, ∃ m22 : Nat, ∃ m23 : Nat, hcell h10 ⟨m20, m21 + 131 + Int.toNat x6 * 1, none⟩ = some (.slice p7 m22 m23) ∧ (∃ k3 : Option Addr → Nat → Nat → Int → zab → Prop, ∃ z3 : Option Addr → Nat → Nat → Int → zab → Nat, k3 p5 m15 m16 0 h10 ∧ (∀ g3 : Nat → Value, ∀ h11 : zab, ∀ p8 : Option Addr, ∀ m24 : Nat, ∀ m25 : Nat, ∀ x7 : Int, k3 p8 m24 m25 x7 h11 → (bif decide (x7 < (m22 : Int)) then zbj p7 (fun m26 m27 => 0 ≤ x7 ∧ x7 < (m22 : Int) ∧ (∃ x8 : Int, hcell h11 ⟨m26, m27 + Int.toNat x7 * 1, none⟩ = some (.int .i64 x8) ∧ (zbj w (fun m28 m29 => 0 ≤ x8 ∧ x8 < 65 ∧ (∃ x9 : Int, hcell h11 ⟨m28, m29 + 66 + Int.toNat x8 * 1, none⟩ = some (.int .i64 x9) ∧ (zbj w (fun m30 m31 => 0 ≤ x8 ∧ x8 < 65 ∧ (stK h11 ⟨m30, m31 + 66 + Int.toNat x8 * 1, none⟩ (.int .i64 (IntKind.wrap .i64 (x9 - 1))) (fun h12 => zbj w (fun m32 m33 => 0 ≤ x8 ∧ x8 < 65 ∧ (∃ x10 : Int, hcell h12 ⟨m32, m33 + 66 + Int.toNat x8 * 1, none⟩ = some (.int .i64 x10) ∧ (bif x10 == 0 then zhx h12 (.cells #[.int .i64 x8] 3) (fun m34 h13 => ze5 Tryz.prog #[111, 111] 111 (.slice p8 m24 m25) (.slice (some ⟨m34, 0, none⟩) 1 1) h13 (fun v5 h14 => ∃ p9 : Option Addr, ∃ m35 : Nat, ∃ m36 : Nat, v5 = .slice p9 m35 m36 ∧ (k3 p9 m35 m36 (IntKind.wrap .i64 (x7 + 1)) h14 ∧ z3 p9 m35 m36 (IntKind.wrap .i64 (x7 + 1)) h14 < z3 p8 m24 m25 x7 h11))) else k3 p8 m24 m25 (IntKind.wrap .i64 (x7 + 1)) h12 ∧ z3 p8 m24 m25 (IntKind.wrap .i64 (x7 + 1)) h12 < z3 p8 m24 m25 x7 h11)))))))))))) else k2 p8 m24 m25 p6 m18 m19 h11 ∧ z2 p8 m24 m25 p6 m18 m19 h11 < z2 p3 m10 m11 p4 m12 m13 h4)))))))))))))))) else R (.slice p4 m12 m13) h4)))))
theorem V259 (w : Option Addr) (h : zab) (R : Value → zab → Prop) (hh : VC259 w h R) : Run Tryz.prog 259 [.pointer w] h R :=
 zap mixV1 Tryz.func259 (by kernel_rfl) (H := H259) (by kernel_rfl) hh
def H302 : Hn := ⟨[], [], []⟩
def VC302 (w : Option Addr) (node : Int) (h : zab) (R : Value → zab → Prop) : Prop :=
 bif decide (node ≥ 1) then zbj w (fun m1 m2 => ∃ x1 : Int, hcell h ⟨m1, m2, none⟩ = some (.int .i64 x1) ∧ (R (.bool (decide (node ≤ x1))) h)) else R (.bool false) h
theorem V302 (w : Option Addr) (node : Int) (h : zab) (R : Value → zab → Prop) (hh : VC302 w node h R) : Run Tryz.prog 302 [.pointer w, .int .i64 node] h R :=
 zap mixV1 Tryz.func302 (by kernel_rfl) (H := H302) (by kernel_rfl) hh
def H181 : Hn := ⟨[], [], []⟩
def VC181 (n : Int) (needsA : Option Addr) (needsN : Nat) (needsC : Nat) (h : zab) (R : Value → zab → Prop) : Prop :=
 Run Tryz.prog 258 [.int .i64 n, .slice needsA needsN needsC] h (fun v1 h1 => ∃ p1 : Option Addr, v1 = .pointer p1 ∧ (bif Option.isNone p1 then R (.tuple #[.pointer none, .slice none 0 0, .int .i64 1]) h1 else Run Tryz.prog 259 [.pointer p1] h1 (fun v2 h2 => ∃ p2 : Option Addr, ∃ m1 : Nat, ∃ m2 : Nat, v2 = .slice p2 m1 m2 ∧ (bif decide ((m1 : Int) < n) then R (.tuple #[.pointer none, .slice none 0 0, .int .i64 9]) h2 else R (.tuple #[.pointer p1, .slice p2 m1 m2, .int .i64 0]) h2))))
theorem V181 (n : Int) (needsA : Option Addr) (needsN : Nat) (needsC : Nat) (h : zab) (R : Value → zab → Prop) (hh : VC181 n needsA needsN needsC h R) : Run Tryz.prog 181 [.int .i64 n, .slice needsA needsN needsC] h R :=
 zap mixV1 Tryz.func181 (by kernel_rfl) (H := H181) (by kernel_rfl) hh
def H303 : Hn := ⟨[(5, [(3, .i .i64), (4, .i .i64)])], [], []⟩
def VC303 (xA : Option Addr) (xN : Nat) (xC : Nat) (h : zab) (R : Value → zab → Prop) : Prop :=
 bif decide ((xN : Int) < 1) then False else zbj xA (fun m1 m2 => 0 ≤ (0 : Int) ∧ (0 : Int) < (xN : Int) ∧ (∃ x1 : Int, hcell h ⟨m1, m2 + 0 * 1, none⟩ = some (.int .i64 x1) ∧ (∃ k1 : Int → Int → zab → Prop, ∃ z1 : Int → Int → zab → Nat, k1 x1 1 h ∧ (∀ g1 : Nat → Value, ∀ h1 : zab, ∀ x2 : Int, ∀ x3 : Int, k1 x2 x3 h1 → (bif decide (x3 < (xN : Int)) then zbj xA (fun m3 m4 => 0 ≤ x3 ∧ x3 < (xN : Int) ∧ (∃ x4 : Int, hcell h1 ⟨m3, m4 + Int.toNat x3 * 1, none⟩ = some (.int .i64 x4) ∧ (k1 (if x4 < x2 then x4 else x2) (IntKind.wrap .i64 (x3 + 1)) h1 ∧ z1 (if x4 < x2 then x4 else x2) (IntKind.wrap .i64 (x3 + 1)) h1 < z1 x2 x3 h1))) else R (.int .i64 x2) h1)))))
theorem V303 (xA : Option Addr) (xN : Nat) (xC : Nat) (h : zab) (R : Value → zab → Prop) (hh : VC303 xA xN xC h R) : Run Tryz.prog 303 [.slice xA xN xC] h R :=
 zap mixV1 Tryz.func303 (by kernel_rfl) (H := H303) (by kernel_rfl) hh
def H304 : Hn := ⟨[(5, [(5, .i .i64), (6, .i .i64)])], [], []⟩
def VC304 (sA : Option Addr) (sN : Nat) (sC : Nat) (del : Value) (h : zab) (R : Value → zab → Prop) : Prop :=
 Run Tryz.prog 349 [.slice sA sN sC, del] h (fun v1 h1 => ∃ x1 : Int, v1 = .int .i64 x1 ∧ (bif x1 == -1 then R (.slice sA sN sC) h1 else ∃ k1 : Int → Int → zab → Prop, ∃ z1 : Int → Int → zab → Nat, k1 x1 (IntKind.wrap .i64 (x1 + 1)) h1 ∧ (∀ g1 : Nat → Value, ∀ h2 : zab, ∀ x2 : Int, ∀ x3 : Int, k1 x2 x3 h2 → (bif decide (x3 < (sN : Int)) then zbj sA (fun m1 m2 => 0 ≤ x3 ∧ x3 < (sN : Int) ∧ (∃ x4 : Int, hcell h2 ⟨m1, m2 + Int.toNat x3 * 1, none⟩ = some (.int .i64 x4) ∧ (zie Tryz.prog del [.int .i64 x4] h2 (fun v2 h3 => ∃ b1 : Bool, v2 = .bool b1 ∧ (bif !b1 then zbj sA (fun m3 m4 => 0 ≤ x2 ∧ x2 < (sN : Int) ∧ (stK h3 ⟨m3, m4 + Int.toNat x2 * 1, none⟩ (.int .i64 x4) (fun h4 => k1 (IntKind.wrap .i64 (x2 + 1)) (IntKind.wrap .i64 (x3 + 1)) h4 ∧ z1 (IntKind.wrap .i64 (x2 + 1)) (IntKind.wrap .i64 (x3 + 1)) h4 < z1 x2 x3 h2))) else k1 x2 (IntKind.wrap .i64 (x3 + 1)) h3 ∧ z1 x2 (IntKind.wrap .i64 (x3 + 1)) h3 < z1 x2 x3 h2))))) else 0 ≤ x2 ∧ (x2 ≤ (sN : Int) ∧ (sN : Int) ≤ (sC : Int) ∧ (zjk Tryz.prog #[111] 0 (.slice (slA sA sC (Int.toNat x2) 1) (zhi (Int.toNat (sN : Int)) (Int.toNat x2)) (zhi sC (Int.toNat x2))) h2 (fun v3 h5 => (0 : Int) ≤ x2 ∧ x2 ≤ (sC : Int) ∧ (R (.slice sA (Int.toNat x2) sC) h5))))))))
theorem V304 (sA : Option Addr) (sN : Nat) (sC : Nat) (del : Value) (h : zab) (R : Value → zab → Prop) (hh : VC304 sA sN sC del h R) : Run Tryz.prog 304 [.slice sA sN sC, del] h R :=
 zap mixV1 Tryz.func304 (by kernel_rfl) (H := H304) (by kernel_rfl) hh
def H349 : Hn := ⟨[(2, [(8, .i .i64)])], [], []⟩
def VC349 (sA : Option Addr) (sN : Nat) (sC : Nat) (f : Value) (h : zab) (R : Value → zab → Prop) : Prop :=
 ∃ k1 : Int → zab → Prop, ∃ z1 : Int → zab → Nat, k1 0 h ∧ (∀ g1 : Nat → Value, ∀ h1 : zab, ∀ x1 : Int, k1 x1 h1 → (bif decide (x1 < (sN : Int)) then zbj sA (fun m1 m2 => 0 ≤ x1 ∧ x1 < (sN : Int) ∧ (∃ x2 : Int, hcell h1 ⟨m1, m2 + Int.toNat x1 * 1, none⟩ = some (.int .i64 x2) ∧ (zie Tryz.prog f [.int .i64 x2] h1 (fun v1 h2 => ∃ b1 : Bool, v1 = .bool b1 ∧ (bif b1 then R (.int .i64 x1) h2 else k1 (IntKind.wrap .i64 (x1 + 1)) h2 ∧ z1 (IntKind.wrap .i64 (x1 + 1)) h2 < z1 x1 h1))))) else R (.int .i64 (-1)) h1))
theorem V349 (sA : Option Addr) (sN : Nat) (sC : Nat) (f : Value) (h : zab) (R : Value → zab → Prop) (hh : VC349 sA sN sC f h R) : Run Tryz.prog 349 [.slice sA sN sC, f] h R :=
 zap mixV1 Tryz.func349 (by kernel_rfl) (H := H349) (by kernel_rfl) hh
def H305 : Hn := ⟨[], [], []⟩
def VC305 (x : Int) (a1 : Option Addr) (h : zab) (R : Value → zab → Prop) : Prop :=
 zbj a1 (fun m1 m2 => ∃ x1 : Int, hcell h ⟨m1, m2, none⟩ = some (.int .i64 x1) ∧ (R (.bool (x == x1)) h))
theorem V305 (x : Int) (a1 : Option Addr) (h : zab) (R : Value → zab → Prop) (hh : VC305 x a1 h R) : Run Tryz.prog 305 [.int .i64 x, .pointer a1] h R :=
 zap mixV1 Tryz.func305 (by kernel_rfl) (H := H305) (by kernel_rfl) hh
end
inductive MK where
 | n (x : Int)
 | s (b : ByteArray)
 | a (l : List Int)
deriving DecidableEq
def mkV : MK → Value
 | .n x => .int .i64 x
 | .s b => .string b
 | .a l => .agg (l.map (Value.int .i64)).toArray
inductive KT where
 | n
 | s
 | a (w : Nat)
def isI (P : Program) (T : TypeId) : Bool :=
 match P.underlying T with
 | some (.int .i64) => true
 | _ => false
def znn (P : Program) : List Field → Nat → Bool
 | [], _ => true
 | f :: l, i => (f.offset == i) && (f.name != "_") && isI P f.type && znn P l (i + 1)
def zog (P : Program) (K : TypeId) : Option KT :=
 match P.underlying K with
 | some (.int .i64) => some .n
 | some .string => some .s
 | some (.array n e) => cond (isI P e && (match P.info? e with | some i => Nat.beq i.size 1 | none => false)) (some (.a n)) none
 | some (.struct fs) => cond (znn P fs.toList 0 && !P.stoodInHeld K) (some (.a fs.size)) none
 | _ => none
def KT.has : KT → MK → Bool
 | .n, .n _ => true
 | .s, .s _ => true
 | .a w, .a l => Nat.beq l.length w
 | _, _ => false
theorem isI_iff {P : Program} {T : TypeId} (h : isI P T = true) : P.underlying T = some (.int .i64) := by
 unfold isI at h
 split at h
 · assumption
 · cases h
theorem mkV_inj : ∀ {a b : MK}, mkV a = mkV b → a = b
 | .n x, .n y, h => by simp [mkV] at h; rw [h]
 | .s x, .s y, h => by simp [mkV] at h; rw [h]
 | .a x, .a y, h => by
   simp only [mkV, Value.agg.injEq] at h
   have h2 := congrArg Array.toList h
   simp only at h2
   have : x = y := by
    have inj : ∀ {x y : List Int}, x.map (Value.int .i64) = y.map (Value.int .i64) → x = y := by
     intro x
     induction x with
     | nil => intro y hh; cases y with | nil => rfl | cons _ _ => simp at hh
     | cons a x ih =>
       intro y hh
       cases y with
       | nil => simp at hh
       | cons b y => simp at hh; rw [hh.1, ih (by simpa using hh.2)]
    exact inj (by simpa using h2)
   rw [this]
 | .n _, .s _, h => by simp [mkV] at h
 | .n _, .a _, h => by simp [mkV] at h
 | .s _, .n _, h => by simp [mkV] at h
 | .s _, .a _, h => by simp [mkV] at h
 | .a _, .n _, h => by simp [mkV] at h
 | .a _, .s _, h => by simp [mkV] at h
section
variable {P : Program} {w : World}
theorem zlg {T : TypeId} (hT : isI P T = true) (d : Nat) (a b : Int) : (Op.equalIn (d + 1) T (.int .i64 a) (.int .i64 b)).run P w = .ok (a == b) w := run_equalIn_int w d T _ _ _ _ (isI_iff hT)
theorem zb2 {T : TypeId} (hT : isI P T = true) {cs : Array Value} {o : Nat} {v : Value} (hv : cs[o]? = some v) : (part T cs o).run P w = .ok v w :=
 zew (by rw [isI_iff hT]) hv w
theorem ze1 (l : List Int) (i : Nat) : (l.map (Value.int .i64)).toArray[i]? = (l[i]?).map (Value.int .i64) := by simp
theorem zja {e : TypeId} (hT : isI P e = true) (d : Nat) (a b : List Int) : ∀ (n s : Nat), s + n = a.length → a.length = b.length →
 (Op.eqItems (d + 1) e 1 (a.map (Value.int .i64)).toArray (b.map (Value.int .i64)).toArray (List.range' s n)).run P w = .ok (decide (a.drop s = b.drop s)) w
 | 0, s, h1, h2 => by
   rw [List.drop_eq_nil_of_le (by omega), List.drop_eq_nil_of_le (by omega)]
   simp [Op.eqItems]
 | n + 1, s, h1, h2 => by
   have ha : s < a.length := by omega
   have hb : s < b.length := by omega
   have ih := zja hT d a b n (s + 1) (by omega) h2
   have pa : (part e (a.map (Value.int .i64)).toArray (s * 1)).run P w = .ok (.int .i64 a[s]) w := zb2 hT (by rw [Nat.mul_one, ze1, List.getElem?_eq_getElem ha]; rfl)
   have pb : (part e (b.map (Value.int .i64)).toArray (s * 1)).run P w = .ok (.int .i64 b[s]) w := zb2 hT (by rw [Nat.mul_one, ze1, List.getElem?_eq_getElem hb]; rfl)
   simp only [List.range'_succ, Op.eqItems, Sem.run_bind, pa, pb, zlg hT, Result.andThen_ok]
   rw [List.drop_eq_getElem_cons ha, List.drop_eq_getElem_cons hb]
   by_cases hab : a[s] = b[s]
   · simp only [hab, beq_self_eq_true, Bool.not_true, Bool.false_eq_true, if_false, ih, List.cons.injEq, true_and]
   · have : (a[s] == b[s]) = false := by simpa using hab
     simp only [this, Bool.not_false, if_true, Sem.run_pure, List.cons.injEq, hab, false_and, decide_false]
theorem zhn (d : Nat) (a b : List Int) : ∀ (fs : List Field) (i : Nat), znn P fs i = true → i + fs.length = a.length → a.length = b.length →
 (Op.eqFields (d + 1) (a.map (Value.int .i64)).toArray (b.map (Value.int .i64)).toArray fs).run P w = .ok (decide (a.drop i = b.drop i)) w
 | [], i, hf, h1, h2 => by
   simp only [List.length_nil] at h1
   rw [List.drop_eq_nil_of_le (by omega), List.drop_eq_nil_of_le (by omega)]
   simp [Op.eqFields]
 | f :: fs, i, hf, h1, h2 => by
   simp only [znn, Bool.and_eq_true, beq_iff_eq, bne_iff_ne] at hf
   obtain ⟨⟨⟨ho, hn⟩, hT⟩, hr⟩ := hf
   simp only [List.length_cons] at h1
   have ha : i < a.length := by omega
   have hb : i < b.length := by omega
   have ih := zhn d a b fs (i + 1) hr (by omega) h2
   have pa : (part f.type (a.map (Value.int .i64)).toArray i).run P w = .ok (.int .i64 a[i]) w := zb2 hT (by rw [ze1, List.getElem?_eq_getElem ha]; rfl)
   have pb : (part f.type (b.map (Value.int .i64)).toArray i).run P w = .ok (.int .i64 b[i]) w := zb2 hT (by rw [ze1, List.getElem?_eq_getElem hb]; rfl)
   simp only [Op.eqFields, if_pos hn, ho, Sem.run_bind, pa, pb, zlg hT, Result.andThen_ok]
   rw [List.drop_eq_getElem_cons ha, List.drop_eq_getElem_cons hb]
   by_cases hab : a[i] = b[i]
   · simp only [hab, beq_self_eq_true, Bool.not_true, Bool.false_eq_true, if_false, ih, List.cons.injEq, true_and]
   · have : (a[i] == b[i]) = false := by simpa using hab
     simp only [this, Bool.not_false, if_true, Sem.run_pure, List.cons.injEq, hab, false_and, decide_false]
theorem run_eqKey {K : TypeId} {n : Nat} (hk : zog P K = some (.a n)) {a b : List Int} (h1 : a.length = n) (h2 : b.length = n) : (Op.equal K (mkV (.a a)) (mkV (.a b))).run P w = .ok (decide (a = b)) w := by
 unfold zog at hk
 unfold Op.equal Op.maxDepth mkV
 split at hk <;> try (cases hk; done)
 · rename_i m e hu
   cases hc : (isI P e && (match P.info? e with | some i => Nat.beq i.size 1 | none => false)) with
   | false => rw [hc] at hk; cases hk
   | true =>
     rw [hc] at hk
     simp only [cond_true, Option.some.injEq, KT.a.injEq] at hk
     subst hk
     simp only [Bool.and_eq_true] at hc
     obtain ⟨hT, hi⟩ := hc
     cases hinf : P.info? e with
     | none => rw [hinf] at hi; cases hi
     | some i =>
       rw [hinf] at hi
       have hsz : P.cellsOf e = 1 := by simp only [Program.cellsOf, hinf]; exact Nat.eq_of_beq_eq_true hi
       rw [show (10000 : Nat) = 9998 + 1 + 1 from rfl, run_equalIn_array w (9998 + 1) _ _ hu hinf, hsz, List.range_eq_range']
       have := zja (P := P) (w := w) hT 9998 a b m 0 (by omega) (by omega)
       simpa using this
 · rename_i fs hu
   cases hc : (znn P fs.toList 0 && !P.stoodInHeld K) with
   | false => rw [hc] at hk; cases hk
   | true =>
     rw [hc] at hk
     simp only [cond_true, Option.some.injEq, KT.a.injEq] at hk
     subst hk
     simp only [Bool.and_eq_true, Bool.not_eq_true'] at hc
     have hfo : P.fieldsOf K = fs := by simp [Program.fieldsOf, hu]
     rw [show (10000 : Nat) = 9998 + 1 + 1 from rfl, run_equalIn_struct w (9998 + 1) K _ _ (by rw [hfo]; exact hu) hc.2, hfo]
     have := zhn (P := P) (w := w) 9998 a b fs.toList 0 hc.1 (by simpa using h1.symm) (by omega)
     simpa using this
end
def numFs (P : Program) (g : TypeId → Option Nat) : List Field → Nat → Option Nat
 | [], i => some i
 | f :: l, i => cond ((f.offset == i) && (f.name != "_")) (match g f.type with
   | some n => numFs P g l (i + n)
   | none => none) none
def numT (P : Program) : Nat → TypeId → Option Nat
 | 0, _ => none
 | d + 1, T => cond (isI P T) (some 1) (match P.underlying T, P.info? T with
   | some (.struct fs), some i => (match numFs P (numT P d) fs.toList 0 with
     | some n => cond (Nat.beq i.size n && !P.stoodInHeld T) (some n) none
     | none => none)
   | _, _ => none)
def valT (P : Program) (T : TypeId) (l : List Int) : Value := cond (isI P T) (match l with | [x] => .int .i64 x | _ => undef) (.agg (l.map (Value.int .i64)).toArray)
section
variable {P : Program} {w : World}
theorem zn7 {d : Nat} {T : TypeId} {n : Nat} (h : numT P (d + 1) T = some n) : (isI P T = true ∧ n = 1) ∨ (isI P T = false ∧ ∃ fs i, P.underlying T = some (.struct fs) ∧ P.info? T = some i ∧ numFs P (numT P d) fs.toList 0 = some n ∧ i.size = n ∧ P.stoodInHeld T = false) := by
 unfold numT at h
 cases hi : isI P T with
 | true => rw [hi] at h; cases h; exact .inl ⟨rfl, rfl⟩
 | false =>
   rw [hi] at h
   simp only [cond_false] at h
   split at h
   · rename_i fs i hu hinf
     split at h
     · rename_i k hk
       cases hc : (Nat.beq i.size k && !P.stoodInHeld T) with
       | false => rw [hc] at h; cases h
       | true =>
         rw [hc] at h
         cases h
         simp only [Bool.and_eq_true, Bool.not_eq_true'] at hc
         exact .inr ⟨rfl, fs, i, hu, hinf, hk, Nat.eq_of_beq_eq_true hc.1, hc.2⟩
     · cases h
   · cases h
theorem run_partN {d : Nat} {T : TypeId} {n : Nat} (h : numT P d T = some n) {cs : List Int} {o : Nat} (ho : o + n ≤ cs.length) : (part T (cs.map (Value.int .i64)).toArray o).run P w = .ok (valT P T ((cs.drop o).take n)) w := by
 cases d with
 | zero => cases h
 | succ d =>
   rcases zn7 h with ⟨hi, rfl⟩ | ⟨hi, fs, i, hu, hinf, -, hs, -⟩
   · rw [zb2 (v := .int .i64 (cs[o]'(by omega))) hi (by rw [ze1, List.getElem?_eq_getElem (by omega)]; rfl)]
     unfold valT
     rw [hi, List.drop_eq_getElem_cons (by omega)]
     rfl
   · unfold valT
     rw [hi]
     simp only [part, isAgg, sizeOf, typeInfo, Sem.run_bind, run_underlying hu, Result.andThen_ok, Sem.run_pure, run_program, hinf, if_true, hs, cond_false]
     congr 2
     apply Array.ext'
     simp [List.map_take, List.map_drop]
def EqN (P : Program) (d : Nat) : Prop := ∀ (T : TypeId) (n : Nat), numT P d T = some n → ∀ (D : Nat) (a b : List Int) (w : World), a.length = n → b.length = n → (Op.equalIn (D + d) T (valT P T a) (valT P T b)).run P w = .ok (decide (a = b)) w
theorem zhm {d : Nat} (IH : EqN P d) (D : Nat) (a b : List Int) : ∀ (fs : List Field) (i k : Nat), numFs P (numT P d) fs i = some k → k ≤ a.length → k ≤ b.length →
 i ≤ k ∧ (Op.eqFields (D + d) (a.map (Value.int .i64)).toArray (b.map (Value.int .i64)).toArray fs).run P w = .ok (decide ((a.take k).drop i = (b.take k).drop i)) w
 | [], i, k, hf, h1, h2 => by
   cases hf
   refine ⟨Nat.le_refl _, ?_⟩
   rw [List.drop_eq_nil_of_le (by simp; omega), List.drop_eq_nil_of_le (by simp; omega)]
   simp [Op.eqFields]
 | f :: fs, i, k, hf, h1, h2 => by
   simp only [numFs] at hf
   cases hc : ((f.offset == i) && (f.name != "_")) with
   | false => rw [hc] at hf; cases hf
   | true =>
     rw [hc] at hf
     simp only [cond_true] at hf
     simp only [Bool.and_eq_true, beq_iff_eq, bne_iff_ne] at hc
     obtain ⟨ho, hn⟩ := hc
     split at hf
     · rename_i n hT
       obtain ⟨hik, ih⟩ := zhm IH D a b fs (i + n) k hf h1 h2
       have pa := run_partN (P := P) (w := w) hT (cs := a) (o := i) (by omega)
       have pb := run_partN (P := P) (w := w) hT (cs := b) (o := i) (by omega)
       have la : ((a.drop i).take n).length = n := by simp; omega
       have lb : ((b.drop i).take n).length = n := by simp; omega
       have he := IH f.type n hT D _ _ w la lb
       refine ⟨by omega, ?_⟩
       simp only [Op.eqFields, if_pos hn, ho, Sem.run_bind, pa, pb, he, Result.andThen_ok]
       have sp : ∀ l : List Int, k ≤ l.length → (l.take k).drop i = (l.drop i).take n ++ (l.take k).drop (i + n) := fun l hl => by
        rw [← List.drop_drop]
        conv => lhs; rw [← List.take_append_drop n ((l.take k).drop i)]
        congr 1
        rw [List.drop_take, List.take_take, Nat.min_eq_left (by omega)]
       rw [sp a h1, sp b h2]
       by_cases hab : (a.drop i).take n = (b.drop i).take n
       · simp only [hab, decide_true, Bool.not_true, Bool.false_eq_true, if_false, ih, List.append_cancel_left_eq]
       · have : ¬ ((a.drop i).take n ++ (a.take k).drop (i + n) = (b.drop i).take n ++ (b.take k).drop (i + n)) := fun e => hab (List.append_inj_left e (by rw [la, lb]))
         simp only [hab, decide_false, Bool.not_false, if_true, Sem.run_pure, this]
     · cases hf
theorem eqN : ∀ d, EqN P d
 | 0 => fun T n h => by cases h
 | d + 1 => fun T n h D a b w h1 h2 => by
   rcases zn7 h with ⟨hi, rfl⟩ | ⟨hi, fs, i, hu, hinf, hfs, hs, hst⟩
   · match a, b, h1, h2 with
     | [x], [y], _, _ =>
       unfold valT
       rw [hi]
       have := zlg (P := P) (w := w) hi (D + d) x y
       simp only [cond_true]
       rw [show D + (d + 1) = D + d + 1 from rfl, this]
       congr 1
       by_cases e : x = y
       · subst e; simp
       · simp [e]
   · have hfo : P.fieldsOf T = fs := by simp [Program.fieldsOf, hu]
     unfold valT
     rw [hi]
     simp only [cond_false]
     rw [show D + (d + 1) = D + d + 1 from rfl, run_equalIn_struct w (D + d) T _ _ (by rw [hfo]; exact hu) hst, hfo]
     obtain ⟨-, this⟩ := zhm (P := P) (w := w) (eqN d) D a b fs.toList 0 n hfs (by omega) (by omega)
     rw [this, List.drop_zero, List.drop_zero, List.take_of_length_le (by omega), List.take_of_length_le (by omega)]
theorem run_eqNum {T : TypeId} {n : Nat} (hk : numT P 6 T = some n) (hI : isI P T = false) {a b : List Int} (h1 : a.length = n) (h2 : b.length = n) : (Op.equal T (mkV (.a a)) (mkV (.a b))).run P w = .ok (decide (a = b)) w := by
 have := eqN 6 T n hk 9994 a b w h1 h2
 unfold valT at this
 rw [hI] at this
 exact this
end
section
open Go.MapKept
abbrev MV := List (MK × Value)
def mIdx : MV → MK → Nat → Option (Nat × Value)
 | [], _, _ => none
 | p :: m, k, i => if p.1 = k then some (i, p.2) else mIdx m k (i + 1)
def mEnt (es : List MapEntry) (m : MV) : Prop := es.map (fun e => (e.key, e.val)) = m.map fun p => (mkV p.1, p.2)
theorem zpo {m : MV} (h : mEnt [] m) : m = [] := by unfold mEnt at h; cases m <;> simp at h ⊢
theorem mEnt_cons {e : MapEntry} {es : List MapEntry} {m : MV} (h : mEnt (e :: es) m) : ∃ p l, m = p :: l ∧ e.key = mkV p.1 ∧ e.val = p.2 ∧ mEnt es l := by
 cases m with
 | nil => simp [mEnt] at h
 | cons p l =>
   simp only [mEnt, List.map_cons, List.cons.injEq, Prod.mk.injEq] at h
   exact ⟨p, l, rfl, h.1.1, h.1.2, h.2⟩
theorem zj8 {es : List MapEntry} {m : MV} (h : mEnt es m) : es.length = m.length := by have := congrArg List.length h; simpa using this
theorem mEnt_get {es : List MapEntry} {m : MV} (h : mEnt es m) {i : Nat} {e : MapEntry} (hi : es[i]? = some e) : ∃ p, m[i]? = some p ∧ e.key = mkV p.1 ∧ e.val = p.2 := by
 have h2 := congrArg (fun l => l[i]?) h
 simp only [List.getElem?_map, hi, Option.map_some] at h2
 cases hm : m[i]? with
 | none => rw [hm] at h2; simp at h2
 | some p =>
   rw [hm] at h2
   simp only [Option.map_some, Option.some.injEq, Prod.mk.injEq] at h2
   exact ⟨p, rfl, h2.1, h2.2⟩
section
variable {P : Program} {w : World} {K : TypeId} {kt : KT}
theorem kt_n {k : MK} (h : KT.n.has k = true) : ∃ x, k = .n x := by cases k <;> simp [KT.has] at h; exact ⟨_, rfl⟩
theorem kt_s {k : MK} (h : KT.s.has k = true) : ∃ x, k = .s x := by cases k <;> simp [KT.has] at h; exact ⟨_, rfl⟩
theorem kt_a {n : Nat} {k : MK} (h : (KT.a n).has k = true) : ∃ l, k = .a l ∧ l.length = n := by
 cases k with
 | a l => exact ⟨l, rfl, Nat.eq_of_beq_eq_true h⟩
 | n x => simp [KT.has] at h
 | s x => simp [KT.has] at h
theorem ktOf_n (h : zog P K = some .n) : P.underlying K = some (.int .i64) := by
 unfold zog at h
 split at h
 · assumption
 · cases h
 · generalize (isI P _ && _) = c at h; cases c <;> simp at h
 · generalize (znn P _ 0 && _) = c at h; cases c <;> simp at h
 · cases h
theorem ktOf_s (h : zog P K = some .s) : P.underlying K = some .string := by
 unfold zog at h
 split at h
 · cases h
 · assumption
 · generalize (isI P _ && _) = c at h; cases c <;> simp at h
 · generalize (znn P _ 0 && _) = c at h; cases c <;> simp at h
 · cases h
theorem ktOf_a {n : Nat} (h : zog P K = some (.a n)) : (∃ e i, P.underlying K = some (.array n e) ∧ isI P e = true ∧ P.info? e = some i ∧ i.size = 1) ∨ ∃ fs, P.underlying K = some (.struct fs) ∧ znn P fs.toList 0 = true ∧ fs.size = n := by
 unfold zog at h
 split at h
 · cases h
 · cases h
 · rename_i m e hu
   left
   generalize hc : (isI P e && _) = c at h
   cases c with
   | false => cases h
   | true =>
     simp only [cond_true, Option.some.injEq, KT.a.injEq] at h
     subst h
     simp only [Bool.and_eq_true] at hc
     obtain ⟨hT, hi⟩ := hc
     cases hinf : P.info? e with
     | none => rw [hinf] at hi; cases hi
     | some i => rw [hinf] at hi; exact ⟨e, i, hu, hT, hinf, Nat.eq_of_beq_eq_true hi⟩
 · rename_i fs hu
   right
   cases hc : (znn P fs.toList 0 && !P.stoodInHeld K) with
   | false => rw [hc] at h; cases h
   | true =>
     rw [hc] at h
     simp only [cond_true, Option.some.injEq, KT.a.injEq] at h
     simp only [Bool.and_eq_true] at hc
     exact ⟨fs, hu, hc.1, h⟩
 · cases h
theorem zjc {T : TypeId} (hT : isI P T = true) (em : Bool) (d : Nat) (x : Int) : (Instr.checkKey em (d + 1) T (.int .i64 x)).run P w = .ok () w :=
 run_checkKey (isI_iff hT) (show IsKey (.int .i64) (.int .i64 x) from rfl) em d
theorem zcl (hk : zog P K = some kt) {k : MK} (hx : kt.has k = true) (em : Bool) : (Instr.checkKey em 10000 K (mkV k)).run P w = .ok () w := by
 cases kt with
 | n => obtain ⟨x, rfl⟩ := kt_n hx; exact run_checkKey (ktOf_n hk) (show IsKey (.int .i64) (.int .i64 x) from rfl) em 9999
 | s => obtain ⟨x, rfl⟩ := kt_s hx; exact run_checkKey (ktOf_s hk) (show IsKey .string (.string x) from trivial) em 9999
 | a n =>
   obtain ⟨l, rfl, hl⟩ := kt_a hx
   rcases ktOf_a hk with ⟨e, i, hu, hT, hi, hs⟩ | ⟨fs, hu, hf, hs⟩
   · rw [show (10000 : Nat) = 9998 + 1 + 1 from rfl, Instr.checkKey]
     simp only [Sem.run_bind, run_underlying hu, Result.andThen_ok, mkV]
     simp only [Std.Legacy.Range.forIn_eq_forIn_range', Std.Legacy.Range.size, Nat.sub_zero, Nat.add_one_sub_one, Nat.div_one]
     have hsz : P.cellsOf e = 1 := by simp only [Program.cellsOf, hi]; exact hs
     have hj : ∀ j ∈ List.range' 0 n, j < l.length := fun j hj => by simp at hj; omega
     generalize List.range' 0 n = is at hj
     induction is with
     | nil => simp
     | cons j is ih =>
       have hlt := hj j (by simp)
       have pa : (part e (l.map (Value.int .i64)).toArray (j * 1)).run P w = .ok (.int .i64 l[j]) w := zb2 hT (by rw [Nat.mul_one, ze1, List.getElem?_eq_getElem hlt]; rfl)
       simp only [List.forIn_cons, Sem.run_bind, run_sizeOf w hi, hsz, Result.andThen_ok, pa, zjc hT, Sem.run_pure]
       exact ih fun y hy => hj y (by simp [hy])
   · rw [show (10000 : Nat) = 9998 + 1 + 1 from rfl, Instr.checkKey]
     simp only [Sem.run_bind, run_underlying hu, Result.andThen_ok, mkV]
     rw [← Array.forIn_toList]
     have hll : 0 + fs.toList.length = l.length := by simp [hs, hl]
     clear hu hs hl
     generalize fs.toList = L at hf hll
     generalize 0 = i at hf hll
     induction L generalizing i with
     | nil => simp
     | cons f L ih =>
       simp only [znn, Bool.and_eq_true, beq_iff_eq, bne_iff_ne] at hf
       obtain ⟨⟨⟨ho, hn⟩, hT⟩, hr⟩ := hf
       simp only [List.length_cons] at hll
       have hlt : i < l.length := by omega
       have pa : (part f.type (l.map (Value.int .i64)).toArray i).run P w = .ok (.int .i64 l[i]) w := zb2 hT (by rw [ze1, List.getElem?_eq_getElem hlt]; rfl)
       simp only [List.forIn_cons, Sem.run_bind, hn, ne_eq, not_false_eq_true, if_true, ho, Result.andThen_ok, pa, zjc hT, Sem.run_pure]
       exact ih (i + 1) hr (by omega)
theorem run_askK {n : Nat} (hk : zog P K = some (.a n)) {k : MK} (hx : (KT.a n).has k = true) : ∀ (es : List MapEntry) (m : MV) (i : Nat), mEnt es m → (∀ p ∈ m, (KT.a n).has p.1 = true) → (Instr.findAsking K (mkV k) es i).run P w = .ok (mIdx m k i) w
 | [], m, i, he, _ => by rw [zpo he]; rfl
 | e :: es, m, i, he, hh => by
   obtain ⟨p, l, rfl, h1, h2, h3⟩ := mEnt_cons he
   obtain ⟨a, rfl, ha⟩ := kt_a hx
   obtain ⟨b, hb, hbl⟩ := kt_a (hh p (by simp))
   have ih := run_askK hk hx es l (i + 1) h3 fun q hq => hh q (by simp [hq])
   obtain ⟨pk, pv⟩ := p
   simp only at hb h1 h2
   subst hb
   simp only [Instr.findAsking, h1, h2, Sem.run_bind, run_eqKey hk ha hbl, Result.andThen_ok, mIdx]
   by_cases hab : a = b
   · subst hab; simp
   · have h4 : MK.a b ≠ MK.a a := fun e => hab (by injection e with e; exact e.symm)
     simp only [hab, decide_false, Bool.false_eq_true, if_false, h4, ih]
theorem zpd {d : TypeDesc} (hd : ∀ k k' : MK, kt.has k = true → kt.has k' = true → Instr.sameNow d (mkV k) (mkV k') = some (decide (k' = k))) {k : MK} (hx : kt.has k = true) : ∀ (es : List MapEntry) (m : MV) (i : Nat), mEnt es m → (∀ p ∈ m, kt.has p.1 = true) → Instr.findNow d (mkV k) es i = some (mIdx m k i)
 | [], m, i, he, _ => by rw [zpo he]; rfl
 | e :: es, m, i, he, hh => by
   obtain ⟨p, l, rfl, h1, h2, h3⟩ := mEnt_cons he
   have ih := zpd hd hx es l (i + 1) h3 fun q hq => hh q (by simp [hq])
   unfold Instr.findNow
   rw [h1, hd k p.1 hx (hh p (by simp))]
   simp only [mIdx]
   by_cases hpk : p.1 = k
   · simp [hpk, h2]
   · simp [hpk, ih]
theorem zei (hk : zog P K = some kt) {k : MK} (hx : kt.has k = true) {es : List MapEntry} {m : MV} (he : mEnt es m) (hh : ∀ p ∈ m, kt.has p.1 = true) : (Instr.findKey K (mkV k) es).run P w = .ok (mIdx m k 0) w := by
 cases kt with
 | n =>
   have hu := ktOf_n hk
   refine run_findKey hu (zpd (fun a b ha hb => ?_) hx es m 0 he hh)
   obtain ⟨x, rfl⟩ := kt_n ha
   obtain ⟨y, rfl⟩ := kt_n hb
   simp only [mkV, Instr.sameNow, if_true, MK.n.injEq]
   congr 1
   by_cases hxy : x = y
   · simp [hxy]
   · simp [hxy, Ne.symm hxy]
 | s =>
   have hu := ktOf_s hk
   refine run_findKey hu (zpd (fun a b ha hb => ?_) hx es m 0 he hh)
   obtain ⟨x, rfl⟩ := kt_s ha
   obtain ⟨y, rfl⟩ := kt_s hb
   simp only [mkV, Instr.sameNow, MK.s.injEq]
   congr 1
   by_cases hxy : x = y
   · rw [(bytes_beq x y).2 hxy]; simp [hxy]
   · have : (x == y) = false := by
      cases hc : (x == y) with
      | false => rfl
      | true => exact absurd ((bytes_beq x y).1 hc) hxy
     simp [this, Ne.symm hxy]
 | a n =>
   have hu : ∃ d, P.underlying K = some d ∧ ∀ e (es : List MapEntry), Instr.findNow d (mkV k) (e :: es) 0 = none := by
    obtain ⟨l, rfl, -⟩ := kt_a hx
    rcases ktOf_a hk with ⟨e, i, hu, -⟩ | ⟨fs, hu, -⟩
    · exact ⟨_, hu, fun e es => rfl⟩
    · exact ⟨_, hu, fun e es => rfl⟩
   obtain ⟨d, hu, hf⟩ := hu
   cases es with
   | nil => rw [zpo he]; exact run_findKey hu rfl
   | cons e es =>
     have := run_askK (P := P) (w := w) hk hx (e :: es) m 0 he hh
     simp [Instr.findKey, run_underlying hu, Result.andThen, hf, this]
theorem sameBits_k (k : MK) : Instr.sameBits 10000 (mkV k) (mkV k) = true := by
 cases k with
 | n x => simp [mkV, Instr.sameBits]
 | s x => simp only [mkV, Instr.sameBits]; exact (bytes_beq x x).2 rfl
 | a l =>
   rw [show (10000 : Nat) = 9999 + 1 from rfl]
   simp only [mkV, Instr.sameBits, beq_self_eq_true, Bool.true_and]
   induction l with
   | nil => rfl
   | cons x l ih =>
     simp only [List.map_cons, List.zip_cons_cons, List.all_cons, Bool.and_eq_true] at ih ⊢
     exact ⟨by simp [Instr.sameBits], ih⟩
theorem run_stays (k : MK) : (Instr.keyThatStays (mkV k) (mkV k)).run P w = .ok (mkV k) w := by
 unfold Instr.keyThatStays
 rw [if_pos (sameBits_k k)]
 rfl
end
end
inductive Ds where
 | nil
 | i (k : IntKind) (r : Ds)
 | b (r : Ds)
 | s (r : Ds)
 | l (z : Nat) (e r : Ds)
def zjj (P : Program) : List Field → Nat → Nat → Bool
 | [], o, n => o == n
 | f :: fs, o, n => f.offset == o && zjj P fs (o + P.cellsOf f.type) n
def dsAll (g : TypeId → Ds → Option Ds) : List TypeId → Ds → Option Ds
 | [], r => some r
 | t :: ts, r => (dsAll g ts r).bind (g t)
def dsOf (P : Program) : Nat → TypeId → Ds → Option Ds
 | 0, _, _ => none
 | n + 1, t, r =>
   match P.underlying t with
   | some .bool => some (.b r)
   | some (.int k) => some (.i k r)
   | some .string => some (.s r)
   | some (.slice e) => if P.cellsOf e = 0 then none else (dsOf P n e .nil).map fun d => .l (P.cellsOf e) d r
   | some (.struct fs) => if zjj P fs.toList 0 (P.cellsOf t) then dsAll (dsOf P n) (fs.toList.map (·.type)) r else none
   | some (.array m e) => if P.cellsOf t = m * P.cellsOf e then dsAll (dsOf P n) (List.replicate m e) r else none
   | _ => none
def ShU : Ds → List U → Prop
 | .nil, us => us = []
 | .i k r, us => ∃ n us', us = .i k n :: us' ∧ (Lit.int k n).wf = true ∧ ShU r us'
 | .b r, us => ∃ c us', us = .b c :: us' ∧ ShU r us'
 | .s r, us => ∃ x us', us = .s x :: us' ∧ x.size ≤ maxLen ∧ ShU r us'
 | .l z e r, us => ∃ rows us', us = .l z rows :: us' ∧ rows.length ≤ maxLen ∧ (∀ row ∈ rows, ShU e row) ∧ ShU r us'
theorem RdL.append {D : Fz} {vs ws : List Value} {us xs : List U} (h : RdL D vs us) (k : RdL D ws xs) : RdL D (vs ++ ws) (us ++ xs) := by
 induction h with
 | nil => exact k
 | cons a _ ih => exact .cons a ih
theorem zj7 {α β : Type} {f : α → Option β} : ∀ {l : List α} {r : List β}, l.mapM f = some r → r.length = l.length ∧ ∀ (i : Nat) (x : α), l[i]? = some x → ∃ y, f x = some y ∧ r[i]? = some y
 | [], r, h => by simp at h; subst h; exact ⟨rfl, by simp⟩
 | x :: l, r, h => by
   rw [List.mapM_cons] at h
   cases hx : f x with
   | none => rw [hx] at h; cases h
   | some y =>
     rw [hx] at h
     cases hl : l.mapM f with
     | none => rw [hl] at h; cases h
     | some ys =>
       rw [hl] at h
       cases h
       obtain ⟨h1, h2⟩ := zj7 hl
       refine ⟨by simp [h1], fun i z hz => ?_⟩
       cases i with
       | zero => simp at hz; subst hz; exact ⟨y, hx, rfl⟩
       | succ i => simpa using h2 i z (by simpa using hz)
section
variable {H : Type} {enc : TypeId × Value → H} {P : Program} {w : World} {sp : Nat → Bool} {held : Bool}
def allD (h : zab) : Fz := fun b => h[b]?
theorem all_rd {R : List Value → List U → Prop} (hR : ∀ {a b us xs}, R a us → R b xs → R (a ++ b) (us ++ xs)) (hR0 : R [] []) {g : TypeId → Ds → Option Ds} {r : TypeId → List Value → Option (DataW H × List MemPlace)}
 (ih : ∀ t cs x d rest, g t rest = some d → r t cs = some x → ∃ us, R cs us ∧ us.length = cs.length ∧ ∀ us', ShU rest us' → ShU d (us ++ us')) :
 ∀ (ts : List TypeId) (css : List (List Value)) (d rest : Ds), dsAll g ts rest = some d → css.length = ts.length → (∀ (i : Nat) (t : TypeId) (cs : List Value), ts[i]? = some t → css[i]? = some cs → ∃ x, r t cs = some x) →
   ∃ us, R css.flatten us ∧ us.length = css.flatten.length ∧ ∀ us', ShU rest us' → ShU d (us ++ us')
 | [], css, d, rest, hd, hl, _ => by
   have : css = [] := List.eq_nil_of_length_eq_zero hl
   subst this
   cases hd
   exact ⟨[], hR0, rfl, fun us' h => h⟩
 | t :: ts, css, d, rest, hd, hl, hx => by
   cases css with
   | nil => simp at hl
   | cons cs css =>
     simp only [dsAll, Option.bind_eq_some_iff] at hd
     obtain ⟨d1, hd1, hd2⟩ := hd
     obtain ⟨us, h1, h2, h3⟩ := all_rd hR hR0 ih ts css d1 rest hd1 (by simpa using hl) fun i t' cs' a b => hx (i + 1) t' cs' (by simpa using a) (by simpa using b)
     obtain ⟨x, hxx⟩ := hx 0 t cs rfl rfl
     obtain ⟨vs, g1, g2, g3⟩ := ih t cs x d d1 hd2 hxx
     exact ⟨vs ++ us, by simpa using hR g1 h1, by simp [g2, h2], fun us' hu => by rw [List.append_assoc]; exact g3 _ (h3 _ hu)⟩
theorem zmq {a : Addr} {n : Nat} {cs : List Value} (h : w.cells? 0 a n = some cs) : cs.length = n ∧ ∀ j, j < n → w.cell? (a.add j) = cs[j]? := by
 unfold World.cells? at h
 rw [if_pos (Nat.zero_le _)] at h
 obtain ⟨h1, h2⟩ := zj7 h
 refine ⟨by simpa using h1, fun j hj => ?_⟩
 obtain ⟨y, e1, e2⟩ := h2 j j (by simp [hj])
 rw [e1, e2]
theorem drops {P : Program} {cs : List Value} : ∀ (fs : List Field) (o : Nat), zjj P fs o cs.length = true → o ≤ cs.length → (fs.map fun f => (cs.drop f.offset).take (P.cellsOf f.type)).flatten = cs.drop o
 | [], o, h, _ => by simp only [zjj, beq_iff_eq] at h; subst h; simp
 | f :: fs, o, h, ho => by
   simp only [zjj, Bool.and_eq_true, beq_iff_eq] at h
   obtain ⟨rfl, h2⟩ := h
   have hle : f.offset + P.cellsOf f.type ≤ cs.length := by
    have : ∀ (fs : List Field) (o : Nat), zjj P fs o cs.length = true → o ≤ cs.length := by
     intro fs
     induction fs with
     | nil => intro o h; simp only [zjj, beq_iff_eq] at h; omega
     | cons f fs ih => intro o h; simp only [zjj, Bool.and_eq_true, beq_iff_eq] at h; have := ih _ h.2; omega
    exact this _ _ h2
   rw [List.map_cons, List.flatten_cons, drops fs _ h2 hle, ← List.drop_drop, List.take_append_drop]
theorem drops_arr {cs : List Value} {k : Nat} : ∀ (m o : Nat), cs.length = (o + m) * k → ((List.range m).map fun i => (cs.drop ((o + i) * k)).take k).flatten = cs.drop (o * k)
 | 0, o, h => by simp [h]
 | m + 1, o, h => by
   rw [List.range_succ_eq_map, List.map_cons, List.flatten_cons, List.map_map]
   have h1 := drops_arr (cs := cs) (k := k) m (o + 1) (by rw [h]; congr 1; omega)
   have : ((List.range m).map ((fun i => (cs.drop ((o + i) * k)).take k) ∘ Nat.succ)) = (List.range m).map fun i => (cs.drop ((o + 1 + i) * k)).take k := List.map_congr_left fun i _ => by simp only [Function.comp, Nat.succ_eq_add_one]; rw [show o + (i + 1) = o + 1 + i by omega]
   rw [this, h1, Nat.add_zero, show (o + 1) * k = o * k + k by rw [Nat.succ_mul], ← List.drop_drop, List.take_append_drop]
set_option maxRecDepth 10000 in
theorem trod_rd : ∀ (m n : Nat) (t : TypeId) (cs : List Value) (x : DataW H × List MemPlace) (d rest : Ds), dsOf P m t rest = some d → DataW.trod enc P w 0 sp held n t cs = some x →
 ∃ us, RdL (allD w.heap) cs us ∧ us.length = cs.length ∧ ∀ us', ShU rest us' → ShU d (us ++ us')
 | 0, n, t, cs, x, d, rest, hd, hx => by cases hd
 | m + 1, 0, t, cs, x, d, rest, hd, hx => by cases hx
 | m + 1, n + 1, t, cs, x, d, rest, hd, hx => by
   have ih := trod_rd m n
   rw [DataW.trod_step] at hx
   unfold dsOf at hd
   cases hu : P.underlying t with
   | none => rw [hu] at hd; cases hd
   | some td =>
     rw [hu] at hd
     cases td with
     | bool =>
       cases hd
       unfold DataW.trodStep at hx
       rw [hu] at hx
       split at hx <;> simp_all
       exact ⟨[.b _], .cons (.bool _) .nil, rfl, fun us' h => ⟨_, us', rfl, h⟩⟩
     | int k =>
       cases hd
       unfold DataW.trodStep at hx
       rw [hu] at hx
       split at hx <;> simp_all
       rename_i k' nn e1
       obtain ⟨⟨rfl, hw⟩, -⟩ := hx
       exact ⟨[.i k' nn], .cons (.int _ _) .nil, rfl, fun us' h => ⟨nn, us', rfl, hw, h⟩⟩
     | string =>
       cases hd
       unfold DataW.trodStep at hx
       rw [hu] at hx
       split at hx <;> simp_all
       exact ⟨[.s _], .cons (.str _) .nil, rfl, fun us' h => ⟨_, us', rfl, hx.1, h⟩⟩
     | slice e =>
       simp only at hd
       split at hd
       · cases hd
       rename_i hce
       simp only [Option.map_eq_some_iff] at hd
       obtain ⟨de, hde, rfl⟩ := hd
       rw [← DataW.trod_step] at hx
       rcases Go.Deep.open_slice hu hx with ⟨rfl, -⟩ | ⟨a, len, cap, mm, n', DD, Pl, rfl, hb, hl, hm, hmm, -, hel⟩
       · exact ⟨[.l (P.cellsOf e) []], .cons (.nil _ _ _) .nil, rfl, fun us' h => ⟨[], us', rfl, by simp, by simp, h⟩⟩
       have hlm : len ≤ mm := by rw [hmm]; split <;> omega
       by_cases h0 : len = 0
       · subst h0
         exact ⟨[.l (P.cellsOf e) []], .cons (.nil _ _ _) .nil, rfl, fun us' h => ⟨[], us', rfl, by simp, by simp, h⟩⟩
       have each : ∀ i, ∃ q : List Value × List U, i < len → w.cells? 0 (a.add (i * P.cellsOf e)) (P.cellsOf e) = some q.1 ∧ RdL (allD w.heap) q.1 q.2 ∧ q.2.length = q.1.length ∧ ShU de q.2 := by
        intro i
        by_cases hi : i < len
        · obtain ⟨cs', h1, h2⟩ := hel i (by omega)
          obtain ⟨us, g1, g2, g3⟩ := trod_rd m n' e cs' _ de .nil hde h2
          exact ⟨(cs', us), fun _ => ⟨h1, g1, g2, by simpa using g3 [] rfl⟩⟩
        · exact ⟨([], []), fun h => absurd h hi⟩
       have each' : ∀ i, ∃ q : List Value × List U, i < len → w.cells? 0 (a.add (i * P.cellsOf e)) (P.cellsOf e) = some q.1 ∧ RdL (allD w.heap) q.1 q.2 ∧ q.2.length = q.1.length ∧ ShU de q.2 := each
       let Q : Nat → List Value × List U := fun i => Classical.choose (each' i)
       have hQ : ∀ i, i < len → w.cells? 0 (a.add (i * P.cellsOf e)) (P.cellsOf e) = some (Q i).1 ∧ RdL (allD w.heap) (Q i).1 (Q i).2 ∧ (Q i).2.length = (Q i).1.length ∧ ShU de (Q i).2 := fun i => Classical.choose_spec (each' i)
       obtain ⟨b, o, spot⟩ := a
       have hc0 : ∀ i j, i < len → j < P.cellsOf e → w.cell? (((⟨b, o, spot⟩ : Addr).add (i * P.cellsOf e)).add j) = (Q i).1[j]? ∧ j < (Q i).1.length := fun i j hi hj => by
        obtain ⟨h1, h2⟩ := zmq (hQ i hi).1
        exact ⟨h2 j hj, by omega⟩
       have hsp : spot = none := by
        cases spot with
        | none => rfl
        | some z =>
          exfalso
          obtain ⟨h1, h2⟩ := hc0 0 0 (by omega) (by omega)
          rw [List.getElem?_eq_getElem h2] at h1
          have : w.cell? ⟨b, o, some z⟩ = some ((Q 0).1[0]) := by simpa [Addr.add] using h1
          unfold World.cell? at this
          split at this
          · simp at this
          · cases this
       subst hsp
       have hcell : ∀ i j, i < len → j < P.cellsOf e → hcell w.heap ⟨b, o + i * P.cellsOf e + j, none⟩ = (Q i).1[j]? := fun i j hi hj => by
        have h1 := (hc0 i j hi hj).1
        rw [za3, za3] at h1
        exact h1
       have hblk : ∃ arr T f, w.heap[b]? = some (.cells arr T f) := by
        have h1 := hcell 0 0 (by omega) (by omega)
        rw [List.getElem?_eq_getElem (hc0 0 0 (by omega) (by omega)).2] at h1
        unfold YtobdpeelaadkbaaGreat.hcell at h1
        cases hbb : w.heap[b]? with
        | none => simp [hbb] at h1
        | some ob =>
          cases ob <;> simp [hbb] at h1
          exact ⟨_, _, _, rfl⟩
       obtain ⟨arr, T, f, hbk⟩ := hblk
       have hlen : ((List.range len).map fun i => (Q i).2).length = len := by simp
       have hrow : ∀ {i : Nat} {r : List U}, ((List.range len).map fun i => (Q i).2)[i]? = some r → i < len ∧ r = (Q i).2 := fun {i r} hr => by
        rw [List.getElem?_map] at hr
        cases hri : (List.range len)[i]? with
        | none => rw [hri] at hr; cases hr
        | some k =>
          rw [hri] at hr
          obtain ⟨h1, h2⟩ := List.getElem?_eq_some_iff.1 hri
          simp at h1 h2 hr
          subst h2
          exact ⟨h1, hr.symm⟩
       have hr : Rd (allD w.heap) (.slice (some ⟨b, o, none⟩) len cap) (.l (P.cellsOf e) ((List.range len).map fun i => (Q i).2)) := by
        have := Rd.row (D := allD w.heap) b o cap arr T f ((List.range len).map fun i => (Q i).2) (P.cellsOf e) (fun i j => (Q i).1.getD j undef) hbk (by rw [hlen]; exact hl)
         (fun r hr => by
          obtain ⟨i, hi, rfl⟩ := List.mem_map.1 hr
          have hi' : i < len := by simpa using hi
          rw [(hQ i hi').2.2.1, (zmq (hQ i hi').1).1])
         (fun i j r u hi hj => by
          obtain ⟨h1, rfl⟩ := hrow hi
          have hj' : j < P.cellsOf e := by
           have := (List.getElem?_eq_some_iff.1 hj).1
           rwa [(hQ i h1).2.2.1, (zmq (hQ i h1).1).1] at this
          have := hcell i j h1 hj'
          rw [zao hbk] at this
          rw [this]
          simp [(hc0 i j h1 hj').2])
         (fun i j r u hi hj => by
          obtain ⟨h1, rfl⟩ := hrow hi
          obtain ⟨v, hv, hrd⟩ := (hQ i h1).2.1.get hj
          simp only [List.getD_eq_getElem?_getD, hv, Option.getD_some]; exact hrd)
        rwa [hlen] at this
       refine ⟨[.l (P.cellsOf e) _], .cons hr .nil, rfl, fun us' h => ⟨_, us', rfl, by rw [hlen]; omega, fun row hrow' => ?_, h⟩⟩
       obtain ⟨i, hi, rfl⟩ := List.mem_map.1 hrow'
       exact (hQ i (by simpa using hi)).2.2.2
     | struct fs =>
       simp only at hd
       split at hd
       · rename_i hct
         unfold DataW.trodStep at hx
         rw [hu] at hx
         simp only at hx
         split at hx
         · rename_i hl
           simp only [Option.map_eq_some_iff] at hx
           obtain ⟨xs, hxs, -⟩ := hx
           obtain ⟨h1, h2⟩ := zj7 hxs
           rw [← hl] at hct
           have hfl := drops fs.toList 0 hct (Nat.zero_le _)
           rw [List.drop_zero] at hfl
           have := all_rd (R := RdL (allD w.heap)) (fun a b => a.append b) .nil (g := dsOf P m) (r := DataW.trod enc P w 0 sp held n) (fun t cs x d rest a b => ih t cs x d rest a b) (fs.toList.map (·.type)) (fs.toList.map fun f => (cs.drop f.offset).take (P.cellsOf f.type)) d rest hd (by simp) fun i t' cs' a b => by
            rw [List.getElem?_map] at a b
            cases hf : fs.toList[i]? with
            | none => rw [hf] at a; cases a
            | some f =>
              rw [hf] at a b
              cases a; cases b
              obtain ⟨y, hy, -⟩ := h2 i f hf
              exact ⟨y, hy⟩
           rw [hfl] at this
           exact this
         · cases hx
       · cases hd
     | array k e =>
       simp only at hd
       split at hd
       · rename_i hct
         unfold DataW.trodStep at hx
         rw [hu] at hx
         simp only at hx
         split at hx
         · rename_i hl
           simp only [Option.map_eq_some_iff] at hx
           obtain ⟨xs, hxs, -⟩ := hx
           obtain ⟨h1, h2⟩ := zj7 hxs
           rw [hct] at hl
           have hfl := drops_arr (cs := cs) (k := P.cellsOf e) k 0 (by rw [hl, Nat.zero_add])
           rw [Nat.zero_mul, List.drop_zero] at hfl
           simp only [Nat.zero_add] at hfl
           have := all_rd (R := RdL (allD w.heap)) (fun a b => a.append b) .nil (g := dsOf P m) (r := DataW.trod enc P w 0 sp held n) (fun t cs x d rest a b => ih t cs x d rest a b) (List.replicate k e) ((List.range k).map fun i => (cs.drop (i * P.cellsOf e)).take (P.cellsOf e)) d rest hd (by simp) fun i t' cs' a b => by
            rw [List.getElem?_map] at b
            obtain ⟨a1, a2⟩ := List.getElem?_eq_some_iff.1 a
            simp at a1 a2
            subst a2
            rw [List.getElem?_range a1] at b
            cases b
            obtain ⟨y, hy, -⟩ := h2 i i (by simp [a1])
            exact ⟨y, hy⟩
           rw [hfl] at this
           exact this
         · cases hx
       · cases hd
     | _ => cases hd
end
theorem rows_of {α : Type} {e : α → List U} {Q : α → Prop} {d : Ds} (hc : ∀ r, ShU d r → ∃ x, r = e x ∧ Q x) {rows : List (List U)} (h : ∀ r ∈ rows, ShU d r) : ∃ l : List α, rows = l.map e ∧ ∀ x ∈ l, Q x := by
 induction rows with
 | nil => exact ⟨[], rfl, by simp⟩
 | cons r rows ih =>
   obtain ⟨l, rfl, hl⟩ := ih fun r hr => h r (by simp [hr])
   obtain ⟨x, rfl, hx⟩ := hc r (h r (by simp))
   exact ⟨x :: l, rfl, fun y hy => by rcases List.mem_cons.1 hy with rfl | hy; exact hx; exact hl y hy⟩
section
variable {H : Type} {enc : TypeId × Value → H} {P : Program} {W : World} {sp : Nat → Bool} {held : Bool}
theorem open_data {t : TypeId} {ds : Ds} {v : Value} {d : DataW H} {ps : List MemPlace} (hd : dsOf P 12 t .nil = some ds) (h : DataW.Trod enc P W 0 sp held t v d ps) : ∃ us, RdL (allD W.heap) v.cells.toList us ∧ ShU ds us := by
 obtain ⟨fuel, hf⟩ := h
 obtain ⟨us, h1, -, h3⟩ := trod_rd 12 fuel t _ _ ds .nil hd hf
 exact ⟨us, h1, by simpa using h3 [] rfl⟩
end
def in64 (x : Int) : Prop := -9223372036854775808 ≤ x ∧ x ≤ 9223372036854775807
theorem in64_of {n : Int} (h : (Lit.int .i64 n).wf = true) : in64 n := by
 have h1 : IntKind.min .i64 = -9223372036854775808 := by decide
 have h2 : IntKind.max .i64 = 9223372036854775807 := by decide
 simp only [Lit.wf, h1, h2, Bool.and_eq_true, decide_eq_true_eq] at h
 exact h
theorem St.all (h : zab) : St (allD h) [] h := ⟨by simp [ids], by simp, fun b o hb => ⟨hb, by simp [ids]⟩⟩
theorem St.kept {h h' : zab} {C : List zac} {D : Fz} (l : Le (allD h) D) (S : St D C h') : zg8 h h' where
 size := by
  rcases Nat.lt_or_ge h'.size h.size with hlt | hge
  · exfalso
    have h1 := (S.fz h'.size _ (l _ _ (show allD h h'.size = some h[h'.size] by simp [allD, hlt]))).1
    have := zaz h1; omega
  · exact hge
 blk b hb _ := by
  have h1 := (S.fz b _ (l _ _ (show allD h b = some h[b] by simp [allD, hb]))).1
  rw [h1]; simp [hb]
section
open Go.MapKept
def mGet : MV → MK → Option Value
 | [], _ => none
 | p :: m, k => if p.1 = k then some p.2 else mGet m k
def mSet : MV → MK → Value → MV
 | [], k, v => [(k, v)]
 | p :: m, k, v => if p.1 = k then (k, v) :: m else p :: mSet m k v
def mDel : MV → MK → MV
 | [], _ => []
 | p :: m, k => if p.1 = k then m else p :: mDel m k
theorem mIdx_get (m : MV) (k : MK) : ∀ i, (mIdx m k i).map (·.2) = mGet m k := by
 induction m with
 | nil => intro i; rfl
 | cons p m ih => intro i; simp only [mIdx, mGet]; split; rfl; exact ih _
theorem mIdx_none {m : MV} {k : MK} : ∀ {i}, mIdx m k i = none → (∀ p ∈ m, p.1 ≠ k) ∧ ∀ v, mSet m k v = m ++ [(k, v)] := by
 induction m with
 | nil => intro i _; exact ⟨by simp, fun v => rfl⟩
 | cons p m ih =>
   intro i h
   simp only [mIdx] at h
   split at h
   · cases h
   · rename_i hk
     obtain ⟨h1, h2⟩ := ih h
     refine ⟨fun q hq => ?_, fun v => ?_⟩
     · rcases List.mem_cons.1 hq with rfl | hq
       · exact hk
       · exact h1 q hq
     · simp only [mSet, if_neg hk, h2 v, List.cons_append]
theorem mIdx_some {m : MV} {k : MK} : ∀ {i j : Nat} {v : Value}, mIdx m k i = some (j, v) → ∃ n, j = i + n ∧ m[n]? = some (k, v) ∧ (∀ x, mSet m k x = m.set n (k, x)) ∧ mDel m k = m.eraseIdx n := by
 induction m with
 | nil => intro i j v h; simp [mIdx] at h
 | cons p m ih =>
   intro i j v h
   simp only [mIdx] at h
   split at h
   · rename_i hk
     simp only [Option.some.injEq, Prod.mk.injEq] at h
     obtain ⟨rfl, rfl⟩ := h
     obtain ⟨pk, pv⟩ := p
     simp only at hk
     subst hk
     exact ⟨0, rfl, rfl, fun x => by simp [mSet], by simp [mDel]⟩
   · rename_i hk
     obtain ⟨n, h1, h2, h3, h4⟩ := ih h
     exact ⟨n + 1, by omega, by simpa using h2, fun x => by simp only [mSet, if_neg hk, h3 x, List.set_cons_succ], by simp only [mDel, if_neg hk, h4, List.eraseIdx_cons_succ]⟩
theorem mSet_has {kt : KT} {m : MV} {k : MK} {v : Value} (hk : kt.has k = true) (hh : ∀ p ∈ m, kt.has p.1 = true) : ∀ p ∈ mSet m k v, kt.has p.1 = true := by
 induction m with
 | nil => intro p hp; simp [mSet] at hp; subst hp; exact hk
 | cons q m ih =>
   intro p hp
   simp only [mSet] at hp
   split at hp
   · rcases List.mem_cons.1 hp with rfl | hp
     · exact hk
     · exact hh p (by simp [hp])
   · rcases List.mem_cons.1 hp with rfl | hp
     · exact hh _ (by simp)
     · exact ih (fun r hr => hh r (by simp [hr])) p hp
theorem mDel_sub (m : MV) (k : MK) : (mDel m k).Sublist m := by
 induction m with
 | nil => exact .refl _
 | cons q m ih =>
   simp only [mDel]
   split
   · exact List.sublist_cons_self _ _
   · exact ih.cons_cons _
structure MpI (kt : KT) (es : Array MapEntry) (clk : Nat) (m : MV) : Prop where
 ent : mEnt es.toList m
 st : Stamped es clk
 has : ∀ p ∈ m, kt.has p.1 = true
theorem MpI.nil (kt : KT) : MpI kt #[] 0 [] := ⟨rfl, stamped_empty 0, by simp⟩
theorem MpI.keyOf {kt : KT} {es : Array MapEntry} {clk : Nat} {m : MV} (I : MpI kt es clk m) {e : MapEntry} (he : e ∈ es.toList) : ∃ p ∈ m, e.key = mkV p.1 ∧ e.val = p.2 := by
 obtain ⟨i, hi⟩ := List.mem_iff_getElem?.1 he
 obtain ⟨p, hp, h1, h2⟩ := mEnt_get I.ent hi
 exact ⟨p, List.mem_of_getElem? hp, h1, h2⟩
section
variable {P : Program} {w : World} {T K E : TypeId} {kt : KT} {b : Nat} {es : Array MapEntry} {clk : Nat} {m : MV} {k : MK}
theorem run_look (hT : P.underlying T = some (.map K E)) (hk : zog P K = some kt) {i : TypeInfo} {z : Value} (hi : P.info? E = some i) (hz : i.zero = some z) (hb : w.heap[b]? = some (.map es clk)) (I : MpI kt es clk m) (hx : kt.has k = true) (ok : Bool) :
 (Instr.lookup T (.map (some b)) (mkV k) ok).run P w = .ok (if ok then .tuple #[(mGet m k).getD z, .bool (mGet m k).isSome] else (mGet m k).getD z) w := by
 have hg := mIdx_get m k 0
 have hzr : (zeroValue E).run P w = .ok z w := by
  simp only [zeroValue, Sem.run_bind, run_typeInfo w hi, Result.andThen_ok, hz, Sem.run_pure]
 simp only [Instr.lookup, Sem.run_bind, run_underlying hT, Result.andThen_ok, MapKept.run_getObj_map hb, Sem.run_pure, zcl hk hx, zei hk hx I.ent I.has]
 cases hf : mIdx m k 0 with
 | none =>
   rw [hf] at hg
   simp only [Option.map_none] at hg
   rw [← hg]
   simp only [Sem.run_bind, hzr, Result.andThen_ok, Sem.run_pure]
   cases ok <;> rfl
 | some p =>
   rw [hf] at hg
   simp only [Option.map_some] at hg
   rw [← hg]
   simp only [Sem.run_bind, Result.andThen_ok, Sem.run_pure]
   cases ok <;> rfl
theorem run_look0 (hT : P.underlying T = some (.map K E)) (hk : zog P K = some kt) {i : TypeInfo} {z : Value} (hi : P.info? E = some i) (hz : i.zero = some z) (hx : kt.has k = true) (ok : Bool) :
 (Instr.lookup T (.map none) (mkV k) ok).run P w = .ok (if ok then .tuple #[z, .bool false] else z) w := by
 have hzr : (zeroValue E).run P w = .ok z w := by
  simp only [zeroValue, Sem.run_bind, run_typeInfo w hi, Result.andThen_ok, hz, Sem.run_pure]
 have hf := zei (P := P) (w := w) hk hx (es := []) (m := []) rfl (by simp)
 simp only [Instr.lookup, Sem.run_bind, run_underlying hT, Result.andThen_ok, Sem.run_pure, zcl hk hx, hf, mIdx, hzr]
theorem run_upd (hT : P.underlying T = some (.map K E)) (hk : zog P K = some kt) (hb : w.heap[b]? = some (.map es clk)) (I : MpI kt es clk m) (hx : kt.has k = true) (v : Value) :
 ∃ es' clk', (Instr.mapUpdate T (.map (some b)) (mkV k) v).run P w = .ok () { w with heap := w.heap.setIfInBounds b (.map es' clk') } ∧ MpI kt es' clk' (mSet m k v) := by
 cases hf : mIdx m k 0 with
 | none =>
   obtain ⟨h1, h2⟩ := mIdx_none hf
   refine ⟨es.push ⟨mkV k, v, clk⟩, clk + 1, ?_, ?_, stamped_push I.st ?_, mSet_has hx I.has⟩
   · simp [Instr.mapUpdate, run_underlying hT, MapKept.run_getObj_map hb, zcl hk hx, zei hk hx I.ent I.has, hf, MapKept.run_setObj_map _ hb, Result.andThen]
   · unfold mEnt
     rw [h2 v]
     have := I.ent
     unfold mEnt at this
     simp [this]
   · intro e he hke
     obtain ⟨p, hp, h3, -⟩ := I.keyOf he
     exact h1 p hp (mkV_inj (h3.symm.trans hke))
 | some q =>
   obtain ⟨j, u⟩ := q
   obtain ⟨n, h1, h2, h3, -⟩ := mIdx_some hf
   rw [Nat.zero_add] at h1
   subst h1
   have hjl : j < es.toList.length := by rw [zj8 I.ent]; exact (List.getElem?_eq_some_iff.1 h2).1
   obtain ⟨p, hp, hpk, -⟩ := mEnt_get I.ent (List.getElem?_eq_getElem hjl)
   rw [h2] at hp
   cases hp
   have hj : es[j]? = some es.toList[j] := by rw [← Array.getElem?_toList, List.getElem?_eq_getElem hjl]
   have hkeyf : ∀ e ∈ es.toList, es[j]? = some e → ({ e with key := mkV k, val := v } : MapEntry).key = e.key := fun e _ he => by
    rw [hj] at he; cases he; exact hpk.symm
   have hmod : (es.modify j fun e => { e with key := mkV k, val := v }).toList = es.toList.modify j fun e => { e with key := mkV k, val := v } := by simp
   refine ⟨es.modify j fun e => { e with key := mkV k, val := v }, clk, ?_, ?_, stamped_modify I.st _ _ (fun _ _ => rfl) hkeyf, mSet_has hx I.has⟩
   · have hgk : ((es[j]?).map (·.key)).getD (mkV k) = mkV k := by rw [hj]; exact hpk
     simp only [Instr.mapUpdate, Sem.run_bind, run_underlying hT, MapKept.run_getObj_map hb, zcl hk hx, zei hk hx I.ent I.has, hf, hgk, run_stays, MapKept.run_setObj_map _ hb, Result.andThen_ok]
   · unfold mEnt
     rw [hmod, h3 v]
     apply List.ext_getElem?
     intro i
     have h4 := congrArg (fun l => l[i]?) I.ent
     simp only [List.getElem?_map] at h4
     simp only [List.getElem?_map, List.getElem?_modify, List.getElem?_set]
     by_cases hij : j = i
     · subst hij
       simp only [if_true]
       rw [List.getElem?_eq_getElem hjl]
       simp [show j < m.length by rw [← zj8 I.ent]; exact hjl]
     · simp only [hij, if_false]
       cases hee : es.toList[i]? with
       | none => rw [hee] at h4; simpa using h4
       | some e => rw [hee] at h4; simpa using h4
theorem run_del {ty : TypeId} (hT : P.underlying T = some (.map K E)) (hk : zog P K = some kt) (hb : w.heap[b]? = some (.map es clk)) (I : MpI kt es clk m) (hx : kt.has k = true) :
 ∃ es', (Builtin.delete_ #[T, K] ty #[.map (some b), mkV k]).run P w = .ok (.tuple #[]) { w with heap := w.heap.setIfInBounds b (.map es' clk) } ∧ MpI kt es' clk (mDel m k) := by
 have hh : ∀ p ∈ mDel m k, kt.has p.1 = true := fun p hp => I.has p ((mDel_sub m k).subset hp)
 cases hf : mIdx m k 0 with
 | none =>
   obtain ⟨h1, h2⟩ := mIdx_none hf
   have h3 : mDel m k = m := by
    have : ∀ l : MV, (∀ p ∈ l, p.1 ≠ k) → mDel l k = l := by
     intro l
     induction l with
     | nil => intro _; rfl
     | cons p l ih => intro h; simp only [mDel, if_neg (h p (by simp)), ih fun q hq => h q (by simp [hq])]
    exact this m h1
   refine ⟨es, ?_, by rw [h3]; exact I⟩
   simp [Builtin.delete_, run_underlying hT, MapKept.run_getObj_map hb, zcl hk hx, zei hk hx I.ent I.has, hf, MapKept.run_setObj_map _ hb, Result.andThen]
 | some q =>
   obtain ⟨j, u⟩ := q
   obtain ⟨n, h1, h2, -, h4⟩ := mIdx_some hf
   rw [Nat.zero_add] at h1
   subst h1
   have hjl : j < es.toList.length := by rw [zj8 I.ent]; exact (List.getElem?_eq_some_iff.1 h2).1
   have hjs : j < es.size := by simpa using hjl
   have hsub : (es.eraseIdxIfInBounds j).toList = es.toList.eraseIdx j := by
    unfold Array.eraseIdxIfInBounds
    rw [dif_pos hjs]
    simp
   refine ⟨es.eraseIdxIfInBounds j, ?_, ?_, stamped_erase I.st j, hh⟩
   · simp [Builtin.delete_, run_underlying hT, MapKept.run_getObj_map hb, zcl hk hx, zei hk hx I.ent I.has, hf, MapKept.run_setObj_map _ hb, Result.andThen]
   · unfold mEnt
     rw [hsub, h4]
     have e := I.ent
     unfold mEnt at e
     rw [Go.ChangeMaps.map_eraseIdx, e, ← Go.ChangeMaps.map_eraseIdx]
end
end
inductive V where
 | u (x : U)
 | r (b o : Nat)
 | e (b sz : Nat) (k : Int) (o : Nat)
 | g (b o w : Nat) (k : Int)
 | q (c : List U) (o : Nat)
 | w (b : Nat)
 | c (sz : Nat) (rows : List (List U))
 | m (b : Nat)
 | nm
 | nl (s : Nat)
 | f (g : FuncId) (a c : List V)
 | a (l : List V)
 | t (l : List V)
 | n (k : IntKind) (w : Nat) (l : List Int)
 | z
 | y (b : Nat)
 /-- Of an own row's n elements from l on; c: there is room for no more. -/
 | v (b sz l n : Nat) (c : Bool)
 /-- n elements that stand in a block of cells, from o on. -/
 | sl (b o n : Nat)
abbrev V.i (n : Int) : V := .u (.i .i64 n)
abbrev V.l (s : Nat) (x : List (List U)) : V := .u (.l s x)
structure Bd where
 T : TypeId
 E : TypeId
 l : List Nat
abbrev byteC (l : List Nat) : List Value := l.map fun n => Value.int .u8 (.ofNat n)
def Bd.f (x : Bd) (_ : Fz) (b : Nat) (ch : zac) : Prop :=
 (∀ n ∈ x.l, n < 256) ∧ ∃ p, (p = Value.pointer none ∨ p = .pointer (some ⟨b, 0, none⟩)) ∧
  ((x.l = [] ∧ ch = [(b, .cells #[p, .slice none 0 0] x.T (0, 0))]) ∨
   ∃ (g c : Nat) (ps : List Value), x.l.length ≤ c ∧ c ≤ maxLen ∧ (byteC x.l).length + ps.length = c ∧
     ch = [(b, .cells #[p, .slice (some ⟨g, 0, none⟩) x.l.length c] x.T (0, 0)), (g, .cells (byteC x.l ++ ps).toArray x.E (0, 0))])
structure Ob where
 f : Fz → Nat → zac → Prop
 mono : ∀ {D D' : Fz} {b : Nat} {c : zac}, f D b c → Le D D' → f D' b c
 d : Option Bd := none
 hd : ∀ {x : Bd}, d = some x → f = x.f := by intro x h; cases h
def Ob.bd (x : Bd) : Ob where
 f := x.f
 mono := fun h _ => h
 d := some x
 hd := by intro y h; cases h; rfl
theorem Ob.same {I J : Ob} {x : Bd} (hI : I.d = some x) (hJ : J.d = some x) : I = J := by
 have h1 := I.hd hI
 have h2 := J.hd hJ
 obtain ⟨f, mono, d, hd⟩ := I
 obtain ⟨f', mono', d', hd'⟩ := J
 dsimp only at hI hJ h1 h2
 subst hI hJ h1 h2
 rfl
def eqBd (x y : Bd) : Bool := Nat.beq x.T y.T && Nat.beq x.E y.E && List.beq x.l y.l
theorem eqBd_ok {x y : Bd} (h : eqBd x y = true) : x = y := by
 obtain ⟨T, E, l⟩ := x
 obtain ⟨T', E', l'⟩ := y
 simp only [eqBd, Bool.and_eq_true] at h
 rw [Nat.eq_of_beq_eq_true h.1.1, Nat.eq_of_beq_eq_true h.1.2, show l = l' from eq_of_beq (show (l == l') = true from h.2)]
def eqOb (I J : Ob) : Bool :=
 match I.d, J.d with
 | some x, some y => eqBd x y
 | _, _ => false
theorem eqOb_ok {I J : Ob} (h : eqOb I J = true) : I = J := by
 unfold eqOb at h
 split at h
 · rename_i x y h1 h2
   have := eqBd_ok h
   subst this
   exact Ob.same h1 h2
 · cases h
inductive AB where
 | c (l : List V)
 | w (E sz : Nat) (rows : List (List U))
 | o (I : Ob)
 | p (kt : KT) (sz : Nat) (ag : Bool) (rows : List (MK × List U))
 | tk
 | x
 /-- n elements of a row of one's own whose cells are not only data. -/
 | cw (E sz n : Nat) (l : List V)
abbrev Mem := List AB
def zdx : List V → Nat → V
 | [], _ => .z
 | v :: _, 0 => v
 | _ :: l, n + 1 => zdx l n
def zk5 : List V → Nat → V → List V
 | [], _, _ => []
 | _ :: l, 0, v => v :: l
 | x :: l, n + 1, v => x :: zk5 l n v
def znc (t : List V) (d : Option Tmp) (v : V) : List V :=
 match d with
 | some i => zk5 t i v
 | none => t
def mg : Mem → Nat → AB
 | [], _ => .x
 | a :: _, 0 => a
 | _ :: l, n + 1 => mg l n
def ms : Mem → Nat → AB → Mem
 | [], _, _ => []
 | _ :: l, 0, v => v :: l
 | y :: l, n + 1, v => y :: ms l n v
def ug : List U → Nat → Option U
 | [], _ => none
 | v :: _, 0 => some v
 | _ :: l, n + 1 => ug l n
def ofV1 : Value → V
 | .int k n => .u (.i k n)
 | .bool c => .u (.b c)
 | .string s => .u (.s s)
 | .pointer none => .u (.p none)
 | .slice none 0 0 => .nl 0
 | .map none => .nm
 | .func (.func g) ⟨[]⟩ ⟨[]⟩ => .f g [] []
 | _ => .z
def ofV : Value → V
 | .agg cs => .a (cs.toList.map ofV1)
 | v => ofV1 v
def evS (t : List V) : Operand → V
 | .tmp i => zdx t i
 | .const v => ofV v
 | .func f => .f f [] []
 | .global _ => .z
def zmp : V → Option Value
 | .u (.i k n) => some (.int k n)
 | .u (.b c) => some (.bool c)
 | .u (.s s) => some (.string s)
 | _ => none
def concL : List V → Option (List Value)
 | [] => some []
 | v :: l => match zmp v, concL l with
   | some x, some xs => some (x :: xs)
   | _, _ => none
def conc : V → Option Value
 | .a l => match concL l with
   | some xs => some (.agg xs.toArray)
   | none => none
 | v => zmp v
def wd : V → Nat
 | .n _ w _ => w
 | _ => 1
def zb7 : Nat → List V → Option (List V)
 | 0, l => some l
 | _ + 1, [] => none
 | o + 1, x :: l => cond (Nat.ble (wd x) (o + 1) && !Nat.beq (wd x) 0) (zb7 (o + 1 - wd x) l) none
termination_by structural _ l => l
def zgl : Nat → List V → Option (List V)
 | 0, _ => some []
 | _ + 1, [] => none
 | n + 1, x :: l => cond (Nat.ble (wd x) (n + 1) && !Nat.beq (wd x) 0) (match zgl (n + 1 - wd x) l with | some r => some (x :: r) | none => none) none
termination_by structural _ l => l
def wds : List V → Nat
 | [] => 0
 | x :: l => wd x + wds l
def zn3 (new : List V) : Nat → List V → Option (List V)
 | 0, l => match zb7 (wds new) l with | some r => some (new ++ r) | none => none
 | _ + 1, [] => none
 | o + 1, x :: l => cond (Nat.ble (wd x) (o + 1) && !Nat.beq (wd x) 0) (match zn3 new (o + 1 - wd x) l with | some r => some (x :: r) | none => none) none
termination_by structural _ l => l
def zoj : Nat → List V → Option (List Int × List V)
 | 0, l => some ([], l)
 | n + 1, .u (.i .i64 x) :: l => match zoj n l with | some (xs, r) => some (x :: xs, r) | none => none
 | _ + 1, _ => none
def wl (P : Program) : Nat → TypeId → List Nat
 | 0, _ => [1]
 | d + 1, T => match P.underlying T with
   | some (.struct fs) => fs.toList.flatMap fun f => wl P d f.type
   | some (.array n e) => match P.underlying e with
     | some (.int .i64) => cond (Nat.ble 9 n) [n] (List.replicate n 1)
     | _ => (List.replicate n (wl P d e)).flatten
   | _ => [1]
def group : List Nat → List V → List V
 | [], l => l
 | _ :: _, [] => []
 | w :: ws, x :: l => cond (Nat.beq w 1) (x :: group ws l) (match x with
   | .n k w' xs => .n k w' xs :: group ws l
   | x => match zoj w (x :: l) with
     | some (xs, r) => .n .i64 w xs :: group ws r
     | none => x :: l)
def zhy (P : Program) : Nat → TypeId → List Nat
 | 0, _ => [0]
 | d + 1, T => match P.underlying T with
   | some (.struct fs) => fs.toList.flatMap fun f => zhy P d f.type
   | some (.array n e) => (List.replicate n (zhy P d e)).flatten
   | some (.slice e) => [zah P e]
   | _ => [0]
def fixN : List Nat → List V → List V
 | s :: ss, .nl _ :: l => .nl s :: fixN ss l
 | ss, .n k w x :: l => .n k w x :: fixN (ss.drop w) l
 | _ :: ss, x :: l => x :: fixN ss l
 | [], l => l
 | _, [] => []
termination_by structural _ l => l
def ziq (P : Program) (T : TypeId) (l : List V) : List V := group (wl P 9 T) (fixN (zhy P 9 T) l)
def zdb (P : Program) (T : TypeId) : V → V
 | .a l => .a (ziq P T l)
 | .nl s' => match zhy P 9 T with
   | s :: _ => .nl s
   | [] => .nl s'
 | v => v
def asD : V → V
 | .nl s => .u (.l s [])
 | v => v
def datL : List V → List V
 | [] => []
 | v :: l => asD v :: datL l
def datV : V → V
 | .a l => .a (datL l)
 | v => asD v
def datA : AB → AB
 | .c l => .c (datL l)
 | a => a
def shOk : Value × Nat → V → Bool
 | (.int k _, _), .u (.i k' _) => Nat.beq (zaq k) (zaq k')
 | (.bool _, _), .u (.b _) => true
 | (.string _, _), .u (.s _) => true
 | (.slice .., s), .u (.l s' _) => Nat.beq s s'
 | (.slice .., _), .w _ => true
 | (.slice .., s), .c s' _ => Nat.beq s s'
 | (.slice .., s), .nl s' => Nat.beq s s'
 | (.slice .., s), .v _ s' _ _ _ => Nat.beq s s'
 | (.slice .., _), .sl .. => true
 | (.pointer _, _), .u (.p _) => true
 | (.pointer _, _), .r .. => true
 | (.pointer _, _), .e .. => true
 | (.pointer _, _), .g .. => true
 | (.pointer _, _), .q .. => true
 | (.map _, _), .m _ => true
 | (.map _, _), .nm => true
 | (.nilFunc, _), .f .. => true
 | _, _ => false
def isI64 : Value × Nat → Bool
 | (.int .i64 _, _) => true
 | _ => false
def shL : List (Value × Nat) → List V → Bool
 | [], [] => true
 | zs, .n k w _ :: l => Nat.beq (zaq k) 3 && Nat.ble w zs.length && (zs.take w).all isI64 && shL (zs.drop w) l
 | z :: zs, v :: l => shOk z v && shL zs l
 | _, _ => false
termination_by structural _ l => l
inductive LayS where
 | one (z : Value × Nat)
 | many (zs : List (Value × Nat))
def zpq (P : Program) (T : TypeId) : Option LayS :=
 match zdn P T, zhy P 9 T with
 | some (.one z), s :: _ => some (.one (z, s))
 | some (.many zs), ss => cond (Nat.beq zs.length ss.length) (some (.many (zs.zip ss))) none
 | _, _ => none
def elL {α : Type} (l : List α) (k : Int) (K : α → Prop) : Prop :=
 match k with
 | .ofNat i => match l[i]? with | some r => K r | none => False
 | .negSucc _ => False
def oP {α : Type} (o : Option α) (K : α → Prop) : Prop :=
 match o with
 | some c => K c
 | none => False
def dI (k : IntKind) (o : Option U) (K : Int → Prop) : Prop :=
 match o with
 | some (.i k' n) => zmb k k' (K n)
 | _ => False
def dB (o : Option U) (K : Bool → Prop) : Prop :=
 match o with
 | some (.b c) => K c
 | _ => False
def dS (o : Option U) (K : ByteArray → Prop) : Prop :=
 match o with
 | some (.s c) => K c
 | _ => False
def dL (s : Nat) (o : Option U) (K : List (List U) → Prop) : Prop :=
 match o with
 | some (.l s' c) => cond (Nat.beq s s') (K c) False
 | _ => False
def dP (o : Option U) (K : Option (List U) → Prop) : Prop :=
 match o with
 | some (.p c) => K c
 | _ => False
def dU (z : Value × Nat) (o : Option U) (K : U → Prop) : Prop :=
 match z.1 with
 | .int k _ => dI k o fun n => K (.i k n)
 | .bool _ => dB o fun c => K (.b c)
 | .string _ => dS o fun c => K (.s c)
 | .slice .. => dL z.2 o fun c => K (.l z.2 c)
 | .pointer _ => dP o fun c => K (.p c)
 | _ => False
def dUs : List (Value × Nat) → List U → Nat → (List U → Prop) → Prop
 | [], _, _, K => K []
 | z :: zs, r, o, K => dU z (ug r o) fun u => dUs zs r (o + 1) fun us => K (u :: us)
def zet (a b : List (List U)) : Prop := a.length + b.length ≤ 1000000
def zeu : Value → V
 | .int k n => .u (.i k n)
 | .bool c => .u (.b c)
 | .string s => .u (.s s)
 | _ => .z
def ptrAdd (x : V) (n : Nat) (K : V → Prop) : Prop :=
 match x with
 | .r b o => K (.r b (addO o n))
 | .e b sz k o => K (.e b sz k (addO o n))
 | .q c o => K (.q c (addO o n))
 | .u (.p p) => oP p fun c => K (.q c n)
 | _ => False
def zjt : V → Bool
 | .r .. => true
 | .e .. => true
 | .g .. => true
 | .q .. => true
 | _ => false
def binS (P : Program) (op : BinOp) (T : TypeId) (x y : V) (K : V → Prop) : Prop :=
 match conc x, conc y with
 | some a, some b => binK P op T a b fun v => K (zeu v)
 | _, _ => match y with
   | .u (.p none) => match P.underlying T with
     | some (.pointer _) => (match x with
       | .u (.p p) => ze7 op p.isNone fun v => K (zeu v)
       | x => cond (zjt x) (ze7 op false fun v => K (zeu v)) False)
     | _ => False
   | .nm => match P.underlying T with
     | some (.map ..) => (match x with
       | .m _ => ze7 op false fun v => K (zeu v)
       | .nm => ze7 op true fun v => K (zeu v)
       | _ => False)
     | _ => False
   | _ => False
def pickS (c a b : V) (K : V → Prop) : Prop :=
 match c with
 | .u (.b c) => match a, b with
   | .u (.b x), .u (.b y) => K (.u (.b (cond c x y)))
   | _, _ => cond c (K a) (K b)
 | _ => False
def lenS (m : Mem) : V → (Int → Prop) → Prop
 | .u (.s x), K => K x.size
 | .u (.l _ r), K => K r.length
 | .c _ r, K => K r.length
 | .nl _, K => K 0
 | .w b, K => match mg m b with
   | .w _ _ r => K r.length
   | .cw _ _ n _ => K n
   | _ => False
 | .m b, K => match mg m b with
   | .p _ _ _ r => K r.length
   | _ => False
 | .nm, K => K 0
 | .v _ _ _ n _, K => K n
 | .sl _ _ n, K => K n
 | _, _ => False
def okLen : Option TypeDesc → V → Bool
 | some .string, .u (.s _) => true
 | some (.slice _), .u (.l _ _) => true
 | some (.slice _), .c _ _ => true
 | some (.slice _), .nl _ => true
 | some (.slice _), .w _ => true
 | some (.slice _), .v .. => true
 | some (.slice _), .sl .. => true
 | some (.map ..), .m _ => true
 | some (.map ..), .nm => true
 | _, _ => false
def zm1 (t : List V) (x : Option Operand) (d : Int) : Option Int :=
 match x with
 | none => some d
 | some x => match evS t x with
   | .u (.i _ i) => some i
   | _ => none
def zp7 : List V → Option (List U)
 | [] => some []
 | .u x :: l => match zp7 l with | some us => some (x :: us) | none => none
 | .nl s :: l => match zp7 l with | some us => some (.l s [] :: us) | none => none
 | _ :: _ => none
def chunk : Nat → Nat → List U → List (List U)
 | 0, _, _ => []
 | n + 1, sz, l => l.take sz :: chunk n sz (l.drop sz)
def oneA (P : Program) (e : TypeId) (us : List V) : V :=
 match zpq P e, us with
 | some (.one _), v :: _ => v
 | _, us => .a us
def argsI (t : List V) : List Operand → Option (List Value)
 | [] => some []
 | x :: l => match zmp (evS t x), argsI t l with
   | some v, some vs => some (v :: vs)
   | _, _ => none
def zom : V → Option (List V)
 | .a l => some l
 | .z => none
 | .n .. => none
 | .t _ => none
 | v => some [v]
def zd2 (P : Program) (T : TypeId) (v : V) : Option (List V) := zom (zdb P T v)
def fillC (place : Nat → Option (Nat × Nat)) : List V → List (Nat × V) → Option (List V)
 | l, [] => some l
 | l, (i, v) :: rest => match place i, zom v with
   | some (o, s), some xs => cond (Nat.beq (wds xs) s) (match zn3 xs o l with | some l' => fillC place l' rest | none => none) none
   | _, _ => none
def zbh (P : Program) (T : TypeId) : Option (List (Value × Nat)) :=
 match zpq P T with
 | some (.one z) => some [z]
 | some (.many zs) => some zs
 | none => none
def zl8 (z : Value × Nat) (a : V) (m : Mem) (K : V → Prop) : Prop :=
 match a with
 | .r b o => match mg m b with
   | .c cells => match zb7 o cells with
     | some (v :: _) => cond (shOk z v) (K v) False
     | _ => False
   | _ => False
 | .g b o w k => match mg m b with
   | .c cells => match zb7 o cells with
     | some (.n k' w' l :: _) => cond (Nat.beq w w' && Nat.beq (zaq k') 3 && isI64 z) (elL l k fun n => K (.u (.i .i64 n))) False
     | _ => False
   | _ => False
 | .e b sz k o => match mg m b with
   | .w _ sz' rows => cond (Nat.beq sz sz') (elL rows k fun r => dU z (ug r o) fun u => K (.u u)) False
   | .cw _ sz' _ cells => cond (Nat.beq sz sz') (match zb7 (k.toNat * sz + o) cells with
     | some (v :: _) => cond (shOk z v) (K v) False
     | _ => False) False
   | _ => False
 | .q c o => dU z (ug c o) fun u => K (.u u)
 | .u (.p p) => oP p fun c => dU z (ug c 0) fun u => K (.u u)
 | _ => False
def znl (zs : List (Value × Nat)) (a : V) (m : Mem) (K : V → Prop) : Prop :=
 match a with
 | .r b o => match mg m b with
   | .c cells => match zb7 o cells with
     | some l => match zgl zs.length l with
       | some vs => cond (shL zs vs) (K (.a vs)) False
       | none => False
     | none => False
   | _ => False
 | .e b sz k o => match mg m b with
   | .w _ sz' rows => cond (Nat.beq sz sz') (elL rows k fun r => dUs zs r o fun us => K (.a (us.map .u))) False
   | .cw _ sz' _ cells => cond (Nat.beq sz sz') (match zb7 (k.toNat * sz + o) cells with
     | some l => match zgl zs.length l with
       | some vs => cond (shL zs vs) (K (.a vs)) False
       | none => False
     | none => False) False
   | _ => False
 | .q c o => dUs zs c o fun us => K (.a (us.map .u))
 | .u (.p p) => oP p fun c => dUs zs c 0 fun us => K (.a (us.map .u))
 | _ => False
def sLoad (P : Program) (T : TypeId) (a : V) (m : Mem) (K : V → Prop) : Prop :=
 match zpq P T with
 | some (.one z) => zl8 z a m K
 | some (.many zs) => znl zs a m K
 | none => False
def eqI : List Int → List Int → Bool
 | [], [] => true
 | a :: l, b :: r => (a == b) && eqI l r
 | _, _ => false
def intsA : List V → Option (List Int)
 | [] => some []
 | .u (.i .i64 n) :: l => match intsA l with | some r => some (n :: r) | none => none
 | .n .i64 _ xs :: l => match intsA l with | some r => some (xs ++ r) | none => none
 | _ :: _ => none
def arrN (P : Program) (T : TypeId) : Option Nat :=
 match P.underlying T with
 | some (.array ..) => (match zog P T with
   | some (.a n) => some n
   | _ => none)
 | some (.struct fs) => cond (flat P fs.toList 0 || isI P T) none (numT P 6 T)
 | _ => none
def arrE (P : Program) (T : TypeId) (x y : V) : Option Bool :=
 match arrN P T, x, y with
 | some n, .a xs, .a ys => match intsA xs, intsA ys with
   | some a, some b => cond (Nat.beq (wds xs) n && Nat.beq (wds ys) n && !P.eqGuardType P.depth T) (some (eqI a b)) none
   | _, _ => none
 | _, _, _ => none
def idxK (i : Int) (n : Nat) (K : Nat → Prop) : Prop :=
 match i with
 | .ofNat j => cond (Nat.ble (j + 1) n) (K j) False
 | .negSucc _ => False
def rGet : List (MK × List U) → MK → Option (List U)
 | [], _ => none
 | p :: m, k => if p.1 = k then some p.2 else rGet m k
def rSet : List (MK × List U) → MK → List U → List (MK × List U)
 | [], k, v => [(k, v)]
 | p :: m, k, v => if p.1 = k then (k, v) :: m else p :: rSet m k v
def rDel : List (MK × List U) → MK → List (MK × List U)
 | [], _ => []
 | p :: m, k => if p.1 = k then m else p :: rDel m k
def mO {α : Type} (o : Option α) (A : α → Prop) (B : Prop) : Prop :=
 match o with
 | some r => A r
 | none => B
def ktEq : KT → KT → Bool
 | .n, .n => true
 | .s, .s => true
 | .a x, .a y => Nat.beq x y
 | _, _ => false
def mkIs : List V → Option (List Int)
 | [] => some []
 | .u (.i .i64 n) :: l => match mkIs l with | some r => some (n :: r) | none => none
 | _ :: _ => none
def mkOf : V → Option MK
 | .u (.i .i64 n) => some (.n n)
 | .u (.s b) => some (.s b)
 | .a l => match mkIs l with | some r => some (.a r) | none => none
 | _ => none
def isAg (P : Program) (T : TypeId) : Bool :=
 match zpq P T with
 | some (.many _) => true
 | _ => false
def mapT (P : Program) (T : TypeId) : Option (KT × List (Value × Nat) × TypeId × V) :=
 match P.underlying T with
 | some (.map K E) => match zog P K, zbh P E, (P.info? E).bind (·.zero) with
   | some kt, some zs, some zv => some (kt, zs, E, zdb P E (ofV zv))
   | _, _, _ => none
 | _ => none
def lookR (ok : Bool) (v : V) (b : Bool) : V := cond ok (.t [v, .u (.b b)]) v
def lookS (P : Program) (T : TypeId) (x k : V) (ok : Bool) (m : Mem) (K : V → Prop) : Prop :=
 match mapT P T, mkOf k with
 | some (kt, zs, E, zv), some k => cond (kt.has k) (match x with
   | .m b => match mg m b with
     | .p kt' sz ag rows => cond (ktEq kt kt' && Nat.beq sz zs.length && (ag == isAg P E)) (mO (rGet rows k) (fun r => dUs zs r 0 fun us => K (lookR ok (oneA P E (us.map .u)) true)) (K (lookR ok zv false))) False
     | _ => False
   | .nm => K (lookR ok zv false)
   | _ => False) False
 | _, _ => False
def nilOf (m : Mem) : V → Option (Bool × Bool)
 | .nl _ => some (true, false)
 | .u (.l _ rows) => some (rows.isEmpty, true)
 | .c _ rows => some (rows.isEmpty, true)
 | .w b => match mg m b with
   | .w _ _ rows => some (rows.isEmpty, true)
   | _ => none
 | .v _ _ _ n _ => some (Nat.beq n 0, true)
 | .sl _ _ n => some (Nat.beq n 0, true)
 | _ => none
def zlv (P : Program) (m : Mem) (T : TypeId) (x y : V) : Option (Bool × Bool) :=
 match y with
 | .nl _ => match P.underlying T with
   | some (.slice _) => nilOf m x
   | _ => none
 | _ => none
def nilR (op : BinOp) (r : Bool × Bool) (K : Value → Prop) : Prop :=
 match r with
 | (true, false) => ze7 op true K
 | (false, true) => ze7 op false K
 | (true, true) => ze7 op true K ∧ ze7 op false K
 | _ => False
def ltK (c : Bool) (r n : Int) (K : Prop) : Prop := cond c (r = n ∧ K) K
def viewS (P : Program) (t : List V) (e : TypeId) (lo hi mx : Option Operand) (b sz l n : Nat) (c : Bool) (K : V → Prop) : Prop :=
 cond (Nat.beq sz (zah P e) && !Nat.beq sz 0) (match mx, zm1 t lo 0, zm1 t hi n with
  | none, some l', some r => leK lo.isNone 0 l' (l' ≤ r ∧ r ≤ n ∧ ltK c r n (K (.v b sz (l + l'.toNat) (r.toNat - l'.toNat) c)))
  | some mx, some l', some r => match evS t mx with
    | .u (.i _ k) => cond hi.isSome (leK lo.isNone 0 l' (l' ≤ r ∧ r ≤ n ∧ k = r ∧ K (.v b sz (l + l'.toNat) (r.toNat - l'.toNat) true))) False
    | _ => False
  | _, _, _ => False) False
def srcS (m : Mem) : V → Option (Nat × List (List U))
 | .u (.l s r) => some (s, r)
 | .c s r => some (s, r)
 | .w b => match mg m b with
   | .w _ s r => some (s, r)
   | _ => none
 | .v b sz l n _ => match mg m b with
   | .w _ s r => cond (Nat.beq s sz) (some (s, (r.drop l).take n)) none
   | _ => none
 | _ => none
def byteR : List (List U) → Option (List Int)
 | [] => some []
 | [.i .u8 n] :: l => match byteR l with | some r => some (n :: r) | none => none
 | _ :: _ => none
def strOf (l : List Int) : ByteArray := l.foldl (fun r n => r.push (UInt8.ofNat n.toNat)) ByteArray.empty
def strR (P : Program) (s d : TypeId) (m : Mem) (v : V) : Option V :=
 match P.underlying s, P.underlying d with
 | some (.slice e), some .string => (match P.underlying e, srcS m v with
   | some (.int .u8), some (1, rows) => (match byteR rows with
     | some ns => some (.u (.s (strOf ns)))
     | none => none)
   | _, _ => none)
 | _, _ => none
def zjo (o : Oper) : Bool := zcs o && (match o.op with | .convert .. => false | _ => true)
def zhr (P : Program) (t : List V) (m : Mem) (o : Oper) (K : V → Prop) : Prop :=
 match o.op with
 | .move x | .assign x => K (evS t x)
 | .pick c a b => pickS (evS t c) (evS t a) (evS t b) K
 | .nilCheck x => match evS t x with
   | .u (.p p) => oP p fun c => K (.q c 0)
   | .f g a c => K (.f g a c)
   | x => cond (zjt x) (K x) False
 | .binOp op T x y _ => match zlv P m T (evS t x) (evS t y) with
   | some r => nilR op r fun v => K (zeu v)
   | none => match arrE P T (evS t x) (evS t y) with
     | some c => ze7 op c fun v => K (zeu v)
     | none => binS P op T (evS t x) (evS t y) K
 | .unOp op _ x => match zmp (evS t x) with
   | some a => XWp P (Op.unary op a) fun v => K (zeu v)
   | none => False
 | .convert s d x => match zmp (evS t x) with
   | some a => XWp P (convert s d a) fun v => K (zeu v)
   | none => (match strR P s d m (evS t x) with
     | some v => K v
     | none => False)
 | .makeFunc (.func g) a c => K (.f g (a.toList.map (evS t)) (c.toList.map (evS t)))
 | .fieldAddr T x f => match P.underlying T with
   | some (.struct fs) => match fs[f]? with
     | some fd => nz (zah P fd.type) (ptrAdd (evS t x) fd.offset K)
     | none => False
   | _ => False
 | .field T x f => match P.underlying T, evS t x with
   | some (.struct fs), .a l => match fs[f]? with
     | some fd => match zpq P fd.type, zb7 fd.offset l with
       | some (.one z), some (v :: _) => cond (shOk z v) (K v) False
       | some (.many zs), some l => match zgl zs.length l with
         | some vs => K (.a vs)
         | none => False
       | _, _ => False
     | none => False
   | _, _ => False
 | .indexAddr T x i => match evS t i with
   | .u (.i _ i) => match P.underlying T, asD (evS t x) with
     | some (.slice e), .u (.l s rows) => cond (Nat.beq s (zah P e) && !Nat.beq s 0) (elL rows i fun r => K (.q r 0)) False
     | some (.slice e), .c s rows => cond (Nat.beq s (zah P e) && !Nat.beq s 0) (elL rows i fun r => K (.q r 0)) False
     | some (.slice e), .w b => match mg m b with
       | .w _ sz rows => cond (Nat.beq sz (zah P e) && !Nat.beq sz 0) (0 ≤ i ∧ i < rows.length ∧ K (.e b sz i 0)) False
       | .cw _ sz n _ => cond (Nat.beq sz (zah P e) && !Nat.beq sz 0) (0 ≤ i ∧ i < n ∧ K (.e b sz i 0)) False
       | _ => False
     | some (.slice e), .v b sz l n _ => cond (Nat.beq sz (zah P e) && !Nat.beq sz 0) (0 ≤ i ∧ i < n ∧ K (.e b sz (l + i) 0)) False
     | some (.slice e), .sl b o n => nz (zah P e) (idxK i n fun j => K (.r b (o + j * zah P e)))
     | some (.array n e), .e b sz k o => nz (zah P e) (idxK i n fun j => K (.e b sz k (o + j * zah P e)))
     | some (.array n e), .r b o => match mg m b with
       | .c cells => match zb7 o cells with
         | some (.n _ w _ :: _) => cond (Nat.beq w n && Nat.beq (zah P e) 1) (0 ≤ i ∧ i < n ∧ K (.g b o w i)) False
         | some _ => match i with
           | .ofNat j => cond (Nat.ble (j + 1) n) (nz (zah P e) (K (.r b (o + j * zah P e)))) False
           | .negSucc _ => False
         | none => False
       | _ => False
     | some (.array n e), .q c o => nz (zah P e) (idxK i n fun j => K (.q c (o + j * zah P e)))
     | _, _ => False
   | _ => False
 | .index T x i => match evS t i with
   | .u (.i _ i) => match P.underlying T, evS t x with
     | some .string, .u (.s s) => 0 ≤ i ∧ i < s.size ∧ K (.u (.i .u8 (s.data.getD i.toNat 0).toNat))
     | some (.array n e), .a l => match zbh P e, zp7 l with
       | some zs, some us => cond (Nat.beq us.length (n * zs.length)) (elL (chunk n zs.length us) i fun r => dUs zs r 0 fun vs => K (oneA P e (vs.map .u))) False
       | _, _ => False
     | _, _ => False
   | _ => False
 | .extract x i => match evS t x with
   | .t l => cond (Nat.ble (i + 1) l.length) (K (zdx l i)) False
   | _ => False
 | .build T ps => match P.info? T, P.underlying T with
   | some inf, some (.struct fs) => match inf.zero with
     | some (.agg cs) => cond (zi4 P fs.toList) (match fillC (zil P fs.toList) (ziq P T (cs.toList.map ofV1)) (ps.toList.map fun p => (p.1, evS t p.2)) with
       | some l => K (.a (ziq P T l))
       | none => False) False
     | _ => False
   | some inf, some (.array _ e) => match inf.zero with
     | some (.agg cs) => nz (zah P e) (match fillC (fun i => some (i * zah P e, zah P e)) (fixN (zhy P 9 T) (cs.toList.map ofV1)) (ps.toList.map fun p => (p.1, evS t p.2)) with
       | some l => K (.a (ziq P T l))
       | none => False)
     | _ => False
   | _, _ => False
 | .slice T x lo hi mx => match P.underlying T, asD (evS t x) with
   | some .string, .u (.s s) => match mx, zm1 t lo 0, zm1 t hi s.size with
     | none, some l, some r => leK lo.isNone 0 l (l ≤ r ∧ r ≤ s.size ∧ K (.u (.s (s.extract l.toNat r.toNat))))
     | _, _, _ => False
   | some (.slice e), .u (.l s rows) => cond (Nat.beq s (zah P e) && !Nat.beq s 0) (match mx, zm1 t lo 0, zm1 t hi rows.length with
     | none, some l, some r => leK lo.isNone 0 l (l ≤ r ∧ r ≤ rows.length ∧ K (.u (.l s ((rows.take r.toNat).drop l.toNat))))
     | some mx, some l, some r => match evS t mx with
       | .u (.i _ k) => cond hi.isSome (leK lo.isNone 0 l (l ≤ r ∧ r ≤ rows.length ∧ k = r ∧ K (.c s ((rows.take r.toNat).drop l.toNat)))) False
       | _ => False
     | _, _, _ => False) False
   | some (.slice e), .c s rows => cond (Nat.beq s (zah P e) && !Nat.beq s 0) (match mx, zm1 t lo 0, zm1 t hi rows.length with
     | none, some l, some r => leK lo.isNone 0 l (l ≤ r ∧ r ≤ rows.length ∧ r = rows.length ∧ K (.c s ((rows.take r.toNat).drop l.toNat)))
     | _, _, _ => False) False
   | some (.slice e), .w b => match mg m b with
     | .w _ sz rows => viewS P t e lo hi mx b sz 0 rows.length false K
     | _ => False
   | some (.slice e), .v b sz l n c => viewS P t e lo hi mx b sz l n c K
   | _, _ => False
 | .load T a => sLoad P T (evS t a) m K
 | .lookup T x k ok => lookS P T (evS t x) (evS t k) ok m K
 | .call c => match c.callee with
   | .builtin .len => match c.args.toList, c.argTypes.toList with
     | [x], [T] => cond (okLen (P.underlying T) (evS t x)) (lenS m (evS t x) fun n => K (.u (.i .i64 n))) False
     | _, _ => False
   | .builtin .min => match argsI t c.args.toList with
     | some vs => XWp P (Builtin.min_ c.argTypes o.type vs.toArray) fun v => K (zeu v)
     | none => False
   | .builtin .max => match argsI t c.args.toList with
     | some vs => XWp P (Builtin.max_ c.argTypes o.type vs.toArray) fun v => K (zeu v)
     | none => False
   | _ => False
 | _ => False
def inL : List Nat → Nat → Bool
 | [], _ => false
 | x :: l, b => Nat.beq x b || inL l b
def toU (ro : List Nat) (m : Mem) : V → Option (U × Mem)
 | .u x => some (x, m)
 | .c s rows => some (.l s rows, m)
 | .nl s => some (.l s [], m)
 | .q c 0 => some (.p (some c), m)
 | .w b => match mg m b with
   | .w _ sz rows => cond (inL ro b) none (some (.l sz rows, ms m b .x))
   | _ => none
 | _ => none
def toUs (ro : List Nat) : Mem → List V → Option (List U × Mem)
 | m, [] => some ([], m)
 | m, v :: l => match toU ro m v with
   | some (u, m1) => match toUs ro m1 l with
     | some (us, m2) => some (u :: us, m2)
     | none => none
   | none => none
def usp : List U → Nat → List U → List U
 | l, _, [] => l
 | [], _, _ => []
 | _ :: l, 0, v :: vs => v :: usp l 0 vs
 | x :: l, n + 1, v :: vs => x :: usp l n (v :: vs)
def zns (P : Program) (T : TypeId) (x : V) : Bool :=
 match zpq P T, x with
 | some (.many _), .a _ => true
 | some (.one _), .a _ => false
 | some (.one _), _ => true
 | _, _ => false
def znm (m : Mem) : List V → Bool
 | [] => false
 | .w j :: l => (match mg m j with
   | .w _ s _ => Nat.beq s 1
   | _ => true) || znm m l
 | .u _ :: l => znm m l
 | .c _ _ :: l => znm m l
 | .nl _ :: l => znm m l
 | .q _ 0 :: l => znm m l
 | _ :: _ => true
def sStore (P : Program) (vw : Bool) (ro : List Nat) (T : TypeId) (a x : V) (m : Mem) (K : Mem → Prop) : Prop :=
 match zbh P T, zd2 P T x with
 | some zs, some xs => cond (shL zs xs && zns P T (zdb P T x)) (match a with
   | .r b o => cond (inL ro b) False (match mg m b with
     | .c cells => match zn3 xs o cells with
       | some l => K (ms m b (.c l))
       | none => False
     | _ => False)
   | .g b o w k => cond (inL ro b) False (match mg m b, xs with
     | .c cells, [.u (.i .i64 y)] => match zb7 o cells with
       | some (.n k' w' l :: _) => cond (Nat.beq w w' && Nat.beq (zaq k') 3) (match zn3 [.n .i64 w (l.set k.toNat y)] o cells with
         | some l => K (ms m b (.c l))
         | none => False) False
       | _ => False
     | _, _ => False)
   | .e b sz k o => cond (inL ro b) False (match mg m b with
     | .cw E sz' n cells => cond (Nat.beq sz sz') (match zn3 xs (k.toNat * sz + o) cells with
       | some l => K (ms m b (.cw E sz n l))
       | none => False) False
     | .w E sz' rows => cond (vw && znm m xs) (cond (Nat.beq sz sz') (match zn3 xs (k.toNat * sz + o) (rows.flatten.map V.u) with
      | some l => K (ms m b (.cw E sz rows.length l))
      | none => False) False) (match toUs ro m xs with
      | some (us, m1) => match mg m1 b with
        | .w E sz' rows => cond (Nat.beq sz sz') (cond (Nat.beq o 0 && Nat.beq us.length sz) (K (ms m1 b (.w E sz (rows.set k.toNat us))))
         (cond (Nat.ble (o + us.length) sz) (elL rows k fun r => K (ms m1 b (.w E sz (rows.set k.toNat (usp r o us))))) False)) False
        | _ => False
      | none => False)
     | _ => False)
   | _ => False) False
 | _, _ => False
def isSg : V → Bool
 | .a _ => false
 | .t _ => false
 | .z => false
 | _ => true
def appCS (P : Program) (ro : List Nat) (e : TypeId) (x y : V) (m : Mem) (K : V → Mem → Prop) : Prop :=
 match y with
 | .sl b2 o n => match mg m b2 with
   | .c cells => match zb7 o cells with
     | some l => match zgl (n * zah P e) l with
       | some new => cond (new.all isSg && !Nat.beq n 0) (match x with
         | .nl _ => cond (Nat.ble (0 + n) 1000000) (K (.w m.length) (m ++ [.cw e (zah P e) n new])) False
         | .w b => cond (inL ro b) False (match mg m b with
           | .cw e' s k old => cond (Nat.beq e e' && Nat.beq (zah P e) s && Nat.ble (k + n) 1000000) (K (.w m.length) (ms m b .x ++ [.cw e (zah P e) (k + n) (old ++ new)])) False
           | _ => False)
         | _ => False) False
       | none => False
     | none => False
   | _ => False
 | _ => False
def appS (P : Program) (ro : List Nat) (T : TypeId) (x y : V) (m : Mem) (K : V → Mem → Prop) : Prop :=
 match P.underlying T with
 | some (.slice e) => cond (zp1 P T e (zah P e)) (match y with
   | .nl _ => (match x with
     | .nl s => K (.nl s) m
     | .u (.l s r) => K (.u (.l s r)) m
     | .c s r => K (.c s r) m
     | .v b sz l n c => K (.v b sz l n c) m
     | _ => False)
   | y => (match srcS m y with
     | some (s, new) => cond (Nat.beq s (zah P e)) (match x with
       | .nl _ => zet [] new ∧ K (.w m.length) (m ++ [.w e s new])
       | .w b => cond (inL ro b) False (match mg m b with
         | .w e' s' rows => cond (Nat.beq e e' && Nat.beq s s') (zet rows new ∧ K (.w m.length) (ms m b .x ++ [.w e s (rows ++ new)])) False
         | _ => False)
       | .c s' rows => cond (Nat.beq s s') (zet rows new ∧ match new with
         | _ :: _ => K (.w m.length) (m ++ [.w e s (rows ++ new)])
         | [] => K (.c s rows) m) False
       | .v b s' l n c => cond (Nat.beq s s') (match mg m b with
         | .w e' s2 rows => cond (Nat.beq e e' && Nat.beq s2 s) (match new with
           | [] => K (.v b s' l n c) m
           | _ :: _ => cond c (zet ((rows.drop l).take n) new ∧ K (.w m.length) (m ++ [.w e s ((rows.drop l).take n ++ new)]))
             (cond (Nat.beq l 0 && !inL ro b) (zet (rows.take n) new ∧ K (.w m.length) (ms m b .x ++ [.w e s (rows.take n ++ new)])) False)) False
         | _ => False) False
       | _ => False) False
     | none => appCS P ro e x y m K)) False
 | _ => False
def keepT (P : Program) (e : TypeId) : Bool :=
 match P.underlying e with
 | some (.struct fs) => fs.toList.any fun f => (match P.underlying f.type with | some (.slice e) => Nat.beq (zah P e) 1 | _ => false) && !(f.pkgPath == "")
 | _ => false
def zny (P : Program) (ro : List Nat) (e : TypeId) : List (List U) → Mem → List (Nat × V) → Option (List (List U) × Mem)
 | l, m, [] => some (l, m)
 | l, m, (i, v) :: rest => match zd2 P e v with
   | some xs => match toUs ro m xs with
     | some (us, m1) => cond (Nat.beq us.length (zah P e) && Nat.ble (i + 1) l.length) (zny P ro e (l.set i us) m1 rest) none
     | none => none
   | none => none
def zrow (P : Program) (e : TypeId) : Option (List U) :=
 match (P.info? e).bind (·.zero) with
 | some z => zp7 (fixN (zhy P 9 e) (z.cells.toList.map ofV1))
 | none => none
def zcells (P : Program) (e : TypeId) (n : Nat) : Option (List V) :=
 match (P.info? e).bind (·.zero) with
 | some z => cond (Nat.beq z.cells.size (zah P e)) (some (List.replicate n (fixN (zhy P 9 e) (z.cells.toList.map ofV1))).flatten) none
 | none => none
def zgs (P : Program) (e : TypeId) (n : Nat) (ps : List (Nat × V)) : Option (List V) :=
 match zcells P e n with
 | some l => fillC (fun i => some (i * zah P e, zah P e)) l (ps.map fun p => (p.1, zdb P e p.2))
 | none => none
def clearS (P : Program) (ro : List Nat) (T : TypeId) (x : V) (m : Mem) (K : Mem → Prop) : Prop :=
 match P.underlying T with
 | some (.slice e) => match x with
   | .v b sz l n _ => cond (!inL ro b && Nat.beq sz (zah P e) && !Nat.beq n 0) (match mg m b, zrow P e with
     | .w E s rows, some zr => cond (Nat.beq s sz && Nat.beq zr.length sz) (K (ms m b (.w E s (rows.take l ++ (List.replicate n zr ++ rows.drop (l + n)))))) False
     | _, _ => False) False
   | _ => False
 | _ => False
def zl6 (P : Program) (ro : List Nat) (T : TypeId) (x k v : V) (m : Mem) (K : Mem → Prop) : Prop :=
 match mapT P T, mkOf k, x with
 | some (kt, zs, E, _), some k, .m b => cond (kt.has k && !inL ro b) (match zd2 P E v with
   | some xs => match toUs ro m xs with
     | some (us, m1) => match mg m1 b with
       | .p kt' sz ag rows => cond (ktEq kt kt' && Nat.beq sz zs.length && (ag == isAg P E) && Nat.beq us.length sz && zns P E (zdb P E v)) (K (ms m1 b (.p kt' sz ag (rSet rows k us)))) False
       | _ => False
     | none => False
   | none => False) False
 | _, _, _ => False
def zl7 (P : Program) (ro : List Nat) (T K' : TypeId) (x k : V) (m : Mem) (K : Mem → Prop) : Prop :=
 match P.underlying T, zog P K', mkOf k, x with
 | some (.map K1 _), some kt, some k, .m b => cond (Nat.beq K1 K' && kt.has k && !inL ro b) (match mg m b with
   | .p kt' sz ag rows => cond (ktEq kt kt') (K (ms m b (.p kt' sz ag (rDel rows k)))) False
   | _ => False) False
 | some (.map K1 _), some kt, some k, .nm => cond (Nat.beq K1 K' && kt.has k) (K m) False
 | _, _, _, _ => False
def bdL (P : Program) : List Field → Option TypeId
 | [f, g] => (match P.underlying f.type, P.underlying g.type with
   | some (.pointer _), some (.slice e) => (match P.underlying e with
     | some (.int .u8) => some e
     | _ => none)
   | _, _ => none)
 | _ => none
def bdE (P : Program) (T : TypeId) : Option TypeId :=
 match P.underlying T with
 | some (.struct fs) => (match fs.toList with
   | [f] => (match P.underlying f.type with
     | some (.struct gs) => bdL P gs.toList
     | _ => none)
   | l => bdL P l)
 | _ => none
def newA (P : Program) (T : TypeId) (z : Value) : AB :=
 match bdE P T, z.cells.toList with
 | some e, [.pointer none, .slice none 0 0] => .o (.bd ⟨T, e, []⟩)
 | _, _ => .c (match ofV z with | .a l => ziq P T l | x => [zdb P T x])
def boxB (T : TypeId) (e : TypeId) (xs : List V) : AB :=
 match xs with
 | [.u (.p none), .nl _] => .o (.bd ⟨T, e, []⟩)
 | xs => .c xs
def boxA (T : TypeId) (o : Option TypeId) (xs : List V) : AB :=
 match o with
 | none => .c xs
 | some e => boxB T e xs
abbrev zb8 := FuncId → List V → Mem → (V → Mem → Prop) → Prop
def effS (P : Program) (vw : Bool) (ro : List Nat) (call : zb8) (t : List V) (m : Mem) (o : Oper) (K : V → Mem → Prop) : Prop :=
 match o.op with
 | .store T a x => sStore P vw ro T (evS t a) (evS t x) m fun m' => K .z m'
 | .box T x => match zd2 P T (evS t x) with
   | some xs => K (.r m.length 0) (m ++ [boxA T (bdE P T) xs])
   | none => False
 | .alloc T => match (P.info? T).bind (·.zero) with
   | some z => K (.r m.length 0) (m ++ [newA P T z])
   | none => False
 | .buildSlice T n ps => match P.underlying T with
   | some (.slice e) => match zrow P e with
     | some zr => cond (Nat.ble (n * zah P e) 16777216 && !Nat.beq (n * zah P e) 0 && Nat.beq zr.length (zah P e)) (match cond (vw && keepT P e) none (zny P ro e (List.replicate n zr) m (ps.toList.map fun p => (p.1, evS t p.2))) with
       | some (rows, m1) => K (.w m1.length) (m1 ++ [.w e (zah P e) rows])
       | none => match zgs P e n (ps.toList.map fun p => (p.1, evS t p.2)) with
         | some l => K (.sl m.length 0 n) (m ++ [.c l])
         | none => False) (cond (Nat.beq n 0 && Nat.beq ps.size 0) (K (.c (zah P e) []) m) False)
     | none => match zgs P e n (ps.toList.map fun p => (p.1, evS t p.2)) with
      | some l => cond (Nat.ble (n * zah P e) 16777216 && !Nat.beq (n * zah P e) 0) (K (.sl m.length 0 n) (m ++ [.c l])) False
      | none => False
   | _ => False
 | .makeSlice T l c => match P.underlying T, evS t l, evS t c with
   | some (.slice e), .u (.i .i64 l), .u (.i .i64 c) => match zrow P e with
     | some zr => cond (zp1 P T e (zah P e) && Nat.beq zr.length (zah P e)) (0 ≤ l ∧ l ≤ 1000000 ∧ c = l ∧ K (.w m.length) (m ++ [.w e (zah P e) (List.replicate l.toNat zr)])) False
     | none => False
   | _, _, _ => False
 | .call c => match c.callee with
   | .value f => match evS t f with
     | .f g a cc => call g (a ++ c.args.toList.map (evS t) ++ cc) m K
     | _ => False
   | .builtin .append => match c.args.toList, c.argTypes.toList with
     | [x, y], [T, T'] => cond (Nat.beq T T') (appS P ro T (evS t x) (evS t y) m K) False
     | _, _ => False
   | .builtin .delete => match c.args.toList, c.argTypes.toList with
     | [x, y], [T, T'] => zl7 P ro T T' (evS t x) (evS t y) m fun m' => K (.t []) m'
     | _, _ => False
   | .builtin .clear => match c.args.toList, c.argTypes.toList with
     | [x], [T] => clearS P ro T (evS t x) m fun m' => K (.t []) m'
     | _, _ => False
   | _ => False
 | .makeMap T none => match mapT P T with
   | some (kt, zs, E, _) => K (.m m.length) (m ++ [.p kt zs.length (isAg P E) []])
   | none => False
 | .mapUpdate T x k v => zl6 P ro T (evS t x) (evS t k) (evS t v) m fun m' => K .z m'
 | _ => False
def zje (x : Int) : List U := [.i .i64 x]
def cutS (P : Program) (ro : List Nat) (t : List V) (m : Mem) (o : Oper) (K : V → Mem → Prop) : Option Prop :=
 match o.op with
 | .slice T x lo hi none => match evS t x with
   | .w b => match P.underlying T, mg m b with
     | some (.slice e), .w E sz rows => match zm1 t lo 0, zm1 t hi rows.length with
       | some l, some r => some (cond (inL ro b || !(Nat.beq sz (zah P e) && !Nat.beq sz 0)) False (match lo with
         | none => 0 ≤ r ∧ r ≤ rows.length ∧ K (.w m.length) (ms m b .x ++ [.w E sz (rows.take r.toNat)])
         | some _ => 0 ≤ l ∧ l ≤ r ∧ r ≤ rows.length ∧ K (.u (.l sz ((rows.take r.toNat).drop l.toNat))) (ms m b .x)))
       | _, _ => some False
     | _, _ => some False
   | .r b 0 => match lo, hi, mg m b with
     | none, none, .c [.n k w xs] => match P.underlying T with
       | some (.array n e) => some (cond (!inL ro b && Nat.beq n w && Nat.beq (zah P e) 1 && Nat.beq (zaq k) 3) (K (.u (.l 1 (xs.map zje))) (ms m b .x)) False)
       | some (.pointer A) => match P.underlying A with
         | some (.array n e) => some (cond (!inL ro b && Nat.beq n w && Nat.beq (zah P e) 1 && Nat.beq (zaq k) 3) (K (.u (.l 1 (xs.map zje))) (ms m b .x)) False)
         | _ => some False
       | _ => some False
     | _, _, _ => some False
   | _ => none
 | _ => none
def zgn (o : Oper) : Bool := zcs o || zll o
def zmu (s : ByteArray) : List (List U) := s.data.toList.map fun c => [.i .u8 c.toNat]
def strO (P : Program) (o : Oper) : Bool :=
 match o.op with
 | .convert s d _ => (match P.underlying s, P.underlying d with
   | _, some (.slice _) => true
   | some (.slice _), some .string => true
   | _, _ => false)
 | _ => false
def strS (P : Program) (t : List V) (m : Mem) (o : Oper) : Option V :=
 match o.op with
 | .convert s d x => (match P.underlying s, P.underlying d, evS t x with
   | some _, some (.slice e), .u (.s b) => (match P.underlying e with
     | some (.int .u8) => some (.u (.l 1 (zmu b)))
     | _ => none)
   | some (.slice e), some .string, v => (match P.underlying e, srcS m v with
     | some (.int .u8), some (1, rows) => (match byteR rows with
       | some ns => some (.u (.s (strOf ns)))
       | none => none)
     | _, _ => none)
   | _, _, _ => none)
 | _ => none
def strP (P : Program) (t : List V) (m : Mem) (o : Oper) (K : V → Mem → Prop) : Option Prop :=
 cond (strO P o) (match strS P t m o with
  | some v => some (K v m)
  | none => some False) none
theorem zfc {P : Program} {t : List V} {m : Mem} {o : Oper} {K : V → Mem → Prop} (h : strO P o = false) : strP P t m o K = none := by unfold strP; rw [h]; rfl
theorem strP_some {P : Program} {t : List V} {m : Mem} {o : Oper} {K : V → Mem → Prop} {v : V} (h : strO P o = true) (hv : strS P t m o = some v) : strP P t m o K = some (K v m) := by unfold strP; rw [h, hv]; rfl
def opS (P : Program) (vw : Bool) (ro : List Nat) (call : zb8) (t : List V) (m : Mem) (o : Oper) (K : V → Mem → Prop) : Prop :=
 match cond vw (strP P t m o K) (cutS P ro t m o K) with
 | some p => p
 | none => cond (zgn o) (zhr P t m o fun v => K v m) (effS P vw ro call t m o K)
def zh0 (ops : List Oper) (o : Oper) (t : List V) (A B : List V → Prop) : Prop :=
 match zdq ops o with
 | none => A t
 | some (none, _) => B t
 | some (some d, want) =>
   match zdx t d with
   | .u (.b c) => cond c (cond want (A (zk5 t d (.u (.b true)))) (B (zk5 t d (.u (.b true))))) (cond want (B (zk5 t d (.u (.b false)))) (A (zk5 t d (.u (.b false)))))
   | .t [] => B t
   | _ => False
mutual
def zae : V → List Nat
 | .r b _ => [b]
 | .e b _ _ _ => [b]
 | .g b _ _ _ => [b]
 | .w b => [b]
 | .m b => [b]
 | .y b => [b]
 | .v b _ _ _ _ => [b]
 | .sl b _ _ => [b]
 | .f _ a c => zak a ++ zak c
 | .a l => zak l
 | .t l => zak l
 | _ => []
def zak : List V → List Nat
 | [] => []
 | v :: l => zae v ++ zak l
end
def zci : AB → List Nat
 | .c l => zak l
 | .cw _ _ _ l => zak l
 | _ => []
def clo (m : Mem) : Nat → List Nat → List Nat → List Nat
 | 0, _, acc => acc
 | _ + 1, [], acc => acc
 | n + 1, b :: todo, acc => cond (inL acc b) (clo m n todo acc) (clo m n (zci (mg m b) ++ todo) (acc ++ [b]))
def znf (t : List V) (o : Oper) : List Nat := zak (o.op.operands.toList.map (evS t))
def zed (ops : List Oper) (e : Nat) : List (Nat × List Nat) → List Nat
 | [] => []
 | (i, bs) :: l => cond (zc7 ops ops.length i e) (zed ops e l) (bs ++ zed ops e l)
def zfv (P : Program) (vw : Bool) (ro hr : List Nat) (call : List Nat → zb8) (ops : List Oper) (K : List V → Mem → Prop) : Nat → List Nat → List (Nat × List Nat) → List V → Mem → Prop
 | 0, _, _, t, m => K t m
 | n + 1, done, held, t, m =>
   match zjp ops done with
   | some i =>
     match ops[i]? with
     | none => False
     | some o => zh0 ops o t
      (fun t => zhr P t m o fun v => zfv P vw ro hr call ops K n (i :: done) (cond (zjo o) held ((i, znf t o) :: held)) (znc t o.dst v) m)
      (fun t => zfv P vw ro hr call ops K n (i :: done) held (znc t o.dst (.t [])) m)
   | none => conjL (zbi ops done) fun i =>
     match ops[i]? with
     | none => False
     | some o => zh0 ops o t
      (fun t => effS P vw (zed ops i held ++ hr ++ ro) (call (zed ops i held ++ hr)) t m o fun v m' => zfv P vw ro hr call ops K n (i :: done) held (znc t o.dst v) m')
      (fun t => zfv P vw ro hr call ops K n (i :: done) held (znc t o.dst (.t [])) m)
def zbm (t : List V) (o : Oper) : Option (Nat × List V) :=
 match o.op with
 | .call c => match c.callee with
   | .value f => match evS t f with
     | .y b => some (b, c.args.toList.map (evS t))
     | _ => none
   | _ => none
 | _ => none
def zea (P : Program) (vw : Bool) (ro : List Nat) (call : zb8) (yh : Nat → List V → Mem → (V → Mem → Prop) → Prop) (ops : List Oper) (K : List V → Mem → Prop) : List Oper → List V → Mem → Prop
 | [], t, m => K t m
 | o :: rest, t, m => zh0 ops o t (fun t => match zbm t o with
     | some (b, args) => yh b args m fun v m' => zea P vw ro call yh ops K rest (znc t o.dst v) m'
     | none => opS P vw ro call t m o fun v m' => zea P vw ro call yh ops K rest (znc t o.dst v) m')
  (fun t => zea P vw ro call yh ops K rest (znc t o.dst (.t [])) m)
inductive Pt where
 | i (k : IntKind) | b | s | l (s : Nat) | p | n (w : Nat) | ow (E sz : Nat) | w (j : Nat) | r (j o : Nat) | m (j : Nat) | nm | z | A | X | row (E sz : Nat) | mp (kt : KT) (sz : Nat) (ag : Bool)
inductive It where
 | v (y : V)
 | e (y : AB)
def Pt.Fn (X : Type) : Pt → Type
 | .i _ => Int → X
 | .b => Bool → X
 | .s => ByteArray → X
 | .l _ => List (List U) → X
 | .p => Option (List U) → X
 | .n _ => List Int → X
 | .ow _ _ => List (List U) → X
 | .row _ _ => List (List U) → X
 | .A => Ob → X
 | .mp .. => List (MK × List U) → X
 | _ => X
def Pt.lam {X : Type} : (y : Pt) → (It → X) → y.Fn X
 | .i k, K => fun n => K (.v (.u (.i k n)))
 | .b, K => fun n => K (.v (.u (.b n)))
 | .s, K => fun n => K (.v (.u (.s n)))
 | .l sz, K => fun n => K (.v (.u (.l sz n)))
 | .p, K => fun n => K (.v (.u (.p n)))
 | .n nw, K => fun n => K (.v (.n .i64 nw n))
 | .ow E sz, K => fun n => K (.e (.w E sz n))
 | .row E sz, K => fun n => K (.e (.w E sz n))
 | .A, K => fun n => K (.e (.o n))
 | .mp kt sz ag, K => fun n => K (.e (.p kt sz ag n))
 | .w j, K => K (.v (.w j))
 | .r j o, K => K (.v (.r j o))
 | .m j, K => K (.v (.m j))
 | .nm, K => K (.v .nm)
 | .z, K => K (.v .z)
 | .X, K => K (.e .x)
def Pt.zip {X Y Z : Type} : (y : Pt) → y.Fn X → y.Fn Y → (X → Y → Z) → y.Fn Z
 | .i _, f, g, K => fun n => K (f n) (g n)
 | .b, f, g, K => fun n => K (f n) (g n)
 | .s, f, g, K => fun n => K (f n) (g n)
 | .l _, f, g, K => fun n => K (f n) (g n)
 | .p, f, g, K => fun n => K (f n) (g n)
 | .n _, f, g, K => fun n => K (f n) (g n)
 | .ow _ _, f, g, K => fun n => K (f n) (g n)
 | .row _ _, f, g, K => fun n => K (f n) (g n)
 | .A, f, g, K => fun n => K (f n) (g n)
 | .mp .., f, g, K => fun n => K (f n) (g n)
 | .w _, f, g, K => K f g
 | .r _ _, f, g, K => K f g
 | .m _, f, g, K => K f g
 | .nm, f, g, K => K f g
 | .z, f, g, K => K f g
 | .X, f, g, K => K f g
def Pt.all {X : Type} : (y : Pt) → y.Fn X → (X → Prop) → Prop
 | .i _, f, K => ∀ n : Int, K (f n)
 | .b, f, K => ∀ n : Bool, K (f n)
 | .s, f, K => ∀ n : ByteArray, K (f n)
 | .l _, f, K => ∀ n : List (List U), K (f n)
 | .p, f, K => ∀ n : Option (List U), K (f n)
 | .n _, f, K => ∀ n : List Int, K (f n)
 | .ow _ _, f, K => ∀ n : List (List U), K (f n)
 | .row _ _, f, K => ∀ n : List (List U), K (f n)
 | .A, f, K => ∀ n : Ob, K (f n)
 | .mp .., f, K => ∀ n : List (MK × List U), K (f n)
 | .w _, f, K => K f
 | .r _ _, f, K => K f
 | .m _, f, K => K f
 | .nm, f, K => K f
 | .z, f, K => K f
 | .X, f, K => K f
def PtT (R : Type) : List Pt → Type
 | [] => R
 | y :: l => y.Fn (PtT R l)
def Pt.app {X : Type} : (y : Pt) → y.Fn X → It → Option X
 | .i _, F, .v (.u (.i _ nn)) => some (F nn)
 | .b, F, .v (.u (.b nn)) => some (F nn)
 | .s, F, .v (.u (.s nn)) => some (F nn)
 | .l _, F, .v (.u (.l _ nn)) => some (F nn)
 | .p, F, .v (.u (.p nn)) => some (F nn)
 | .n _, F, .v (.n _ _ nn) => some (F nn)
 | .ow _ _, F, .e (.w _ _ nn) => some (F nn)
 | .row _ _, F, .e (.w _ _ nn) => some (F nn)
 | .A, F, .e (.o nn) => some (F nn)
 | .mp .., F, .e (.p _ _ _ nn) => some (F nn)
 | .w _, F, _ => some F
 | .r _ _, F, _ => some F
 | .m _, F, _ => some F
 | .nm, F, _ => some F
 | .z, F, _ => some F
 | .X, F, _ => some F
 | _, _, _ => none
def apP {R : Type} (d : R) : (ps : List Pt) → PtT R ps → List It → R
 | [], F, _ => F
 | _ :: _, _, [] => d
 | y :: ps, F, i :: is => match y.app F i with
   | some G => apP d ps G is
   | none => d
def pk1 (lim : Nat) (m : Mem) : Pt → V → Option (It × Mem)
 | .i k, .u (.i k' n) => cond (Nat.beq (zaq k) (zaq k')) (some (.v (.u (.i k n)), m)) none
 | .b, .u (.b c) => some (.v (.u (.b c)), m)
 | .s, .u (.s c) => some (.v (.u (.s c)), m)
 | .l sz, .u (.l sz' c) => cond (Nat.beq sz sz') (some (.v (.u (.l sz c)), m)) none
 | .l sz, .c sz' c => cond (Nat.beq sz sz') (some (.v (.u (.l sz c)), m)) none
 | .l sz, .nl _ => some (.v (.u (.l sz [])), m)
 | .p, .u (.p c) => some (.v (.u (.p c)), m)
 | .p, .q c 0 => some (.v (.u (.p (some c))), m)
 | .n nw, .n k w' c => cond (Nat.beq nw w' && Nat.beq (zaq k) 3) (some (.v (.n .i64 nw c), m)) none
 | .ow E sz, .w j => match mg m j with
   | .w E' sz' rows => cond (Nat.beq E E' && Nat.beq sz sz') (some (.e (.w E sz rows), ms m j .x)) none
   | _ => none
 | .ow E sz, .nl _ => some (.e (.w E sz []), m)
 | .w j, .w j' => cond (Nat.beq j j' && Nat.ble (j + 1) lim) (some (.v (.w j), m)) none
 | .r j o, .r j' o' => cond (Nat.beq j j' && Nat.beq o o' && Nat.ble (j + 1) lim) (some (.v (.r j o), m)) none
 | .m j, .m j' => cond (Nat.beq j j' && Nat.ble (j + 1) lim) (some (.v (.m j), m)) none
 | .nm, .nm => some (.v .nm, m)
 | .z, .n .. => none
 | .z, _ => some (.v .z, m)
 | _, _ => none
def pkV (lim : Nat) (m : Mem) : List Pt → List V → Option (List It × Mem)
 | [], [] => some ([], m)
 | y :: ps, x :: xs => match pk1 lim m y x with
   | some (o, m1) => match pkV lim m1 ps xs with
     | some (os, m2) => some (o :: os, m2)
     | none => none
   | none => none
 | _, _ => none
inductive BP where
 | A | X | row (E sz : Nat) | mp (kt : KT) (sz : Nat) (ag : Bool) | c (ps : List Pt)
def BP.ps : BP → List Pt
 | .A => [.A]
 | .X => [.X]
 | .row E sz => [.row E sz]
 | .mp kt sz ag => [.mp kt sz ag]
 | .c ps => ps
def pkB1 (lim : Nat) (m : Mem) : BP → Nat → Option (List It × Mem)
 | .A, j => match mg m j with
   | .o I => some ([.e (.o I)], ms m j .x)
   | _ => none
 | .X, j => some ([.e .x], ms m j .x)
 | .row E sz, j => match mg m j with
   | .w E' sz' rows => cond (Nat.beq E E' && Nat.beq sz sz') (some ([.e (.w E sz rows)], ms m j .x)) none
   | _ => none
 | .mp kt sz ag, j => match mg m j with
   | .p kt' sz' ag' rows => cond (ktEq kt kt' && Nat.beq sz sz' && (ag == ag')) (some ([.e (.p kt sz ag rows)], ms m j .x)) none
   | _ => none
 | .c ps, j => match mg m j with
   | .c l => pkV lim (ms m j .x) ps l
   | _ => none
def pkB (lim : Nat) (m : Mem) : List BP → List Nat → Option (List It × Mem)
 | [], [] => some ([], m)
 | y :: ps, j :: js => match pkB1 lim m y j with
   | some (o, m1) => match pkB lim m1 ps js with
     | some (os, m2) => some (o ++ os, m2)
     | none => none
   | none => none
 | _, _ => none
inductive RP where
 | one (y : Pt) | agg (ps : List Pt)
def RP.ps : RP → List Pt
 | .one y => [y]
 | .agg ps => ps
def pkR (lim : Nat) (m : Mem) : List RP → List V → Option (List It × Mem)
 | [], [] => some ([], m)
 | .one y :: ps, x :: xs => match pkV lim m [y] [x] with
   | some (o, m1) => match pkR lim m1 ps xs with
     | some (os, m2) => some (o ++ os, m2)
     | none => none
   | none => none
 | .agg qs :: ps, .a l :: xs => match pkV lim m qs l with
   | some (o, m1) => match pkR lim m1 ps xs with
     | some (os, m2) => some (o ++ os, m2)
     | none => none
   | none => none
 | _, _ => none
def mkP {R : Type} : (ps : List Pt) → (List It → R) → PtT R ps
 | [], K => K []
 | y :: ps, K => y.lam fun i => mkP ps fun is => K (i :: is)
def zipP {X Y Z : Type} (F : X → Y → Z) : (ps : List Pt) → PtT X ps → PtT Y ps → PtT Z ps
 | [], a, b => F a b
 | y :: ps, a, b => y.zip a b (zipP F ps)
def allP : (ps : List Pt) → PtT Prop ps → Prop
 | [], a => a
 | y :: ps, a => y.all a (allP ps)
mutual
def zch (f : Nat → Nat) : V → V
 | .r b o => .r (f b) o
 | .e b s k o => .e (f b) s k o
 | .g b o w k => .g (f b) o w k
 | .w b => .w (f b)
 | .m b => .m (f b)
 | .y b => .y (f b)
 | .v b sz l n c => .v (f b) sz l n c
 | .sl b o n => .sl (f b) o n
 | .f g a c => .f g (zes f a) (zes f c)
 | .a l => .a (zes f l)
 | .t l => .t (zes f l)
 | .u x => .u x
 | .q c o => .q c o
 | .c s r => .c s r
 | .nm => .nm
 | .nl s => .nl s
 | .n k w l => .n k w l
 | .z => .z
def zes (f : Nat → Nat) : List V → List V
 | [] => []
 | v :: l => zch f v :: zes f l
end
def renA (f : Nat → Nat) : AB → AB
 | .c l => .c (zes f l)
 | .cw E s n l => .cw E s n (zes f l)
 | a => a
def itV (f : Nat → Nat) (m : Mem) : It → V × Mem
 | .v x => (zch f x, m)
 | .e ab => (.w m.length, m ++ [ab])
def zgo (f : Nat → Nat) : Mem → Nat → List It → List V × List It × Mem
 | m, 0, is => ([], is, m)
 | m, _ + 1, [] => ([], [], m)
 | m, n + 1, i :: is => ((itV f m i).1 :: (zgo f (itV f m i).2 n is).1, (zgo f (itV f m i).2 n is).2.1, (zgo f (itV f m i).2 n is).2.2)
def reR (f : Nat → Nat) : Mem → List RP → List It → List V × List It × Mem
 | m, [], is => ([], is, m)
 | m, .one _ :: ps, is => ((zgo f m 1 is).1 ++ (reR f (zgo f m 1 is).2.2 ps (zgo f m 1 is).2.1).1, (reR f (zgo f m 1 is).2.2 ps (zgo f m 1 is).2.1).2)
 | m, .agg qs :: ps, is => (.a (zgo f m qs.length is).1 :: (reR f (zgo f m qs.length is).2.2 ps (zgo f m qs.length is).2.1).1, (reR f (zgo f m qs.length is).2.2 ps (zgo f m qs.length is).2.1).2)
def reB (f : Nat → Nat) : Mem → List BP → List Nat → List It → Mem
 | m, .c qs :: ps, b :: bs, is => reB f (ms (zgo f m qs.length is).2.2 b (.c (zgo f m qs.length is).1)) ps bs (zgo f m qs.length is).2.1
 | m, _ :: ps, b :: bs, .e ab :: is => reB f (ms m b ab) ps bs is
 | m, _, _, _ => m
structure Hint where
 sl : List (Nat × RP)
 bl : List (Nat × BP)
def Hint.ps (h : Hint) : List Pt := (h.sl.map (·.2)).flatMap RP.ps ++ (h.bl.map (·.2)).flatMap BP.ps
def Hint.pk (h : Hint) (lim : Nat) (t : List V) (m : Mem) : Option (List It × Mem) :=
 match pkR lim m (h.sl.map (·.2)) (h.sl.map fun p => zdx t p.1) with
 | some (os, m1) => match pkB lim m1 (h.bl.map (·.2)) (h.bl.map (·.1)) with
   | some (os2, m2) => some (os ++ os2, m2)
   | none => none
 | none => none
def tkV : List Pt → List V → List Nat
 | .ow _ _ :: ps, .w j :: xs => j :: tkV ps xs
 | _ :: ps, _ :: xs => tkV ps xs
 | _, _ => []
def tkR : List RP → List V → List Nat
 | .one y :: ps, x :: xs => tkV [y] [x] ++ tkR ps xs
 | .agg qs :: ps, .a l :: xs => tkV qs l ++ tkR ps xs
 | _ :: ps, _ :: xs => tkR ps xs
 | _, _ => []
def tkB (m : Mem) : BP → Nat → List Nat
 | .c ps, j => match mg m j with
   | .c l => j :: tkV ps l
   | _ => [j]
 | _, j => [j]
def Hint.tk (h : Hint) (t : List V) (m : Mem) : List Nat := tkR (h.sl.map (·.2)) (h.sl.map fun p => zdx t p.1) ++ h.bl.flatMap fun p => tkB m p.2 p.1
def zdo : Mem → List Nat → Mem
 | m, [] => m
 | m, b :: bs => zdo (ms m b .x) bs
def Hint.base (h : Hint) (t : List V) (m : Mem) : Mem := zdo m (h.tk t m)
def zic : Mem → Mem → Bool
 | [], _ => true
 | .x :: l, _ :: r => zic l r
 | _ :: _, .x :: _ => false
 | _ :: l, _ :: r => zic l r
 | _ :: _, [] => false
def Hint.el (h : Hint) (m0 : Mem) (F : PtT Prop h.ps) (t : List V) (m : Mem) : Prop :=
 match h.pk m0.length t m with
 | some (os, m1) => cond (zic m0 m1) (apP False h.ps F os) False
 | none => False
def havoc (md : List Nat) : List V → Nat → List V
 | [], _ => []
 | v :: l, k => cond (md.contains k) .z v :: havoc md l (k + 1)
def setS : List V → List (Nat × RP) → List V → List V
 | t, p :: ps, v :: vs => setS (zk5 t p.1 v) ps vs
 | t, _, _ => t
def roOf : Mem → Nat → List Nat
 | [], _ => []
 | .x :: l, k => roOf l (k + 1)
 | _ :: l, k => k :: roOf l (k + 1)
def Hint.st (h : Hint) (md : List Nat) (t : List V) (m : Mem) (is : List It) : List V × Mem :=
 (setS (havoc md t 0) h.sl (reR id (h.base t m) (h.sl.map (·.2)) is).1, reB id (reR id (h.base t m) (h.sl.map (·.2)) is).2.2 (h.bl.map (·.2)) (h.bl.map (·.1)) (reR id (h.base t m) (h.sl.map (·.2)) is).2.1)
abbrev FW (r : Option Nat) : Fence := { Fence.wide with round := r }
def zce (o : Oper) : Bool := match o.op with | .defer _ => true | _ => false
def zfs : Code → List Ex
 | .ret => [.ret]
 | .exit i => [.ext i]
 | .seq x y => zfs x ++ zfs y
 | .cond _ x y => zfs x ++ zfs y
 | .block i c => (zfs c).filter fun e => match e with | .ext j => !Nat.beq i j | _ => true
 | .loop c => zfs c
 | .scope c => zfs c
 | _ => []
section
variable {P : Program}
theorem zon {r : Option Nat} {n : Nat} {f : FuncId} {args : Array Value} {w : World} {R : Ending → World → Prop} (h : Calls P f args w R) : CallsIn (FW r) n P f args w R :=
 (callsIn_wide (n := n)).2 h
theorem rowsIn_of {r : Option Nat} {n : Nat} {row : String} {args : Array Value} {w : World} {R : Value → World → Prop} (h : Rows P row args w R) : RowsIn (FW r) n P row args w R :=
 fun c cs _ => let ⟨v, w', hR, hs⟩ := h c cs; ⟨v, w', hR, stepsIn_wide.2 hs⟩
def Dm (ds : List Deferred) (K : Act → World → Prop) : Act → World → Prop := fun a w => ∃ a0, K a0 w ∧ a = { a0 with defers := a0.defers ++ ds }
def DmQ (ds : List Deferred) (Q : Exit → Act → World → Prop) : Exit → Act → World → Prop := fun e a w => ∃ a0, Q e a0 w ∧ a = { a0 with defers := a0.defers ++ ds }
theorem zn2 (a : Act) (ds : List Deferred) (d : Option Tmp) (v : Value) : ({ a with defers := a.defers ++ ds } : Act).put d v = { a.put d v with defers := (a.put d v).defers ++ ds } := by
 cases d <;> rfl
theorem op_in {o : Oper} {a : Act} {w : World} {K : Act → World → Prop} {Q : Exit → Act → World → Prop} {r : Option Nat} {n : Nat} {ds : List Deferred} (hd : zce o = false) (hQ : ¬ LetsOut Q) (h : o.wp P a w K Q) :
 o.wpIn (FW r) n P { a with defers := a.defers ++ ds } w (Dm ds K) (DmQ ds Q) := by
 have hd' : ∀ c, o.op ≠ .defer c := fun c e => by unfold zce at hd; rw [e] at hd; cases hd
 refine ⟨fun _ _ => trivial, ?_⟩
 rw [Oper.semAt_eq _ _ _ hd']
 have he : ({ a with defers := a.defers ++ ds } : Act).eval = a.eval := by funext x; cases x <;> rfl
 rw [he]
 unfold Oper.wp at h
 generalize hres : (execOp a.eval o).run P w = res at h ⊢
 cases res with
 | ok nx w' =>
   cases nx <;> simp only [Oper.upon, Oper.uponIn] at h ⊢ <;> try exact h.elim
   case value v => exact ⟨_, h, zn2 _ _ _ _⟩
   case skip => exact ⟨_, h, zn2 _ _ _ _⟩
   case enter f args =>
    refine ⟨fun hh => (by cases hh), zon (h.mono fun e w'' he => ?_)⟩
    cases e with
    | returned v => exact ⟨_, he, zn2 _ _ _ _⟩
    | panicked c => exact ⟨_, he, rfl⟩
    | outgrown => exact absurd he hQ
   case row row args => exact ⟨fun hh => (by cases hh), rowsIn_of (Rows.mono h fun v w'' he => ⟨_, he, zn2 _ _ _ _⟩)⟩
   case defer d => exact ⟨_, h, zn2 { a with defers := d :: a.defers } ds _ _⟩
 | halt x w' =>
   cases x <;> simp only [Oper.upon, Oper.uponIn] at h ⊢ <;> try exact h.elim
   case panic v => exact ⟨_, h, rfl⟩
theorem any_in {ops : Array Oper} {Q : Exit → Act → World → Prop} {r : Option Nat} {n : Nat} {ds : List Deferred} (hd : ∀ o ∈ ops.toList, zce o = false) (hQ : ¬ LetsOut Q) : ∀ (fuel : Nat) (listed : Array Bool) (a : Act) (w : World),
 wpAny P .any ops Q fuel listed a w → wpAnyIn (FW r) n P .any ops (DmQ ds Q) fuel listed { a with defers := a.defers ++ ds } w
 | 0, listed, a, w, h => ⟨h.1, _, h.2, rfl⟩
 | fuel + 1, listed, a, w, h => by
   refine ⟨fun hr => ⟨_, h.1 hr, rfl⟩, fun i hi => ?_⟩
   have h1 := h.2 i hi
   unfold wpOp at h1
   unfold wpOpIn
   cases ho : ops[i]? with
   | none => rw [ho] at h1; exact any_in hd hQ fuel _ a w h1
   | some o =>
     rw [ho] at h1
     simp only at h1 ⊢
     split
     · rename_i hw
       rw [if_pos hw] at h1
       have hom : o ∈ ops.toList := by simpa using Array.mem_of_getElem? ho
       rcases h1 with h1 | ⟨-, h1⟩
       · refine Oper.wpIn_mono (fun a' w' hh => ?_) (op_in (ds := ds) (hd o hom) hQ h1)
         obtain ⟨a0, h2, rfl⟩ := hh
         exact any_in hd hQ fuel _ a0 w' h2
       · exact absurd h1 hQ
     · rename_i hw
       rw [if_neg hw] at h1
       refine ⟨fun _ _ => trivial, ?_⟩
       rw [zn2]
       exact any_in hd hQ fuel _ _ w h1
theorem opq_mono {Qa Qb : Exit → Act → World → Prop} {r : Option Nat} {n : Nat} (hq : ∀ e a w, Qa e a w → Qb e a w) {o : Oper} {a1 : Act} {w1 : World} {K : Act → World → Prop} (h : o.wpIn (FW r) n P a1 w1 K Qa) : o.wpIn (FW r) n P a1 w1 K Qb := by
 refine ⟨h.1, ?_⟩
 have h4 := h.2
 generalize (Oper.semAt (FW r).round a1.eval o).run P w1 = res at h4 ⊢
 cases res with
 | ok nx w' =>
   cases nx <;> simp only [Oper.uponIn] at h4 ⊢ <;> try exact h4
   case enter f args =>
    refine ⟨h4.1, h4.2.mono fun e w'' he => ?_⟩
    cases e with
    | returned v => exact he
    | panicked c => exact hq _ _ _ he
    | outgrown => obtain ⟨a2, w2, h⟩ := he; exact ⟨a2, w2, hq _ _ _ h⟩
   case round l f tmps assign body =>
    refine ⟨h4.1, RoundIn.mono h4.2 fun e w'' he => ?_⟩
    cases e with
    | returned v => exact he
    | panicked c => exact hq _ _ _ he
    | outgrown => obtain ⟨a2, w2, h⟩ := he; exact ⟨a2, w2, hq _ _ _ h⟩
 | halt x w' =>
   cases x <;> simp only [Oper.uponIn] at h4 ⊢ <;> try exact h4
   case panic v => exact hq _ _ _ h4
theorem anyq_mono {Qa Qb : Exit → Act → World → Prop} {r : Option Nat} {n : Nat} {ops : Array Oper} (hq : ∀ e a w, Qa e a w → Qb e a w) : ∀ (fuel : Nat) (listed : Array Bool) (a1 : Act) (w1 : World), wpAnyIn (FW r) n P .any ops Qa fuel listed a1 w1 → wpAnyIn (FW r) n P .any ops Qb fuel listed a1 w1 := by
 intro fuel
 induction fuel with
 | zero => intro listed a1 w1 h; exact ⟨h.1, hq _ _ _ h.2⟩
 | succ fuel ih =>
   intro listed a1 w1 h
   refine ⟨fun hr => hq _ _ _ (h.1 hr), fun i hi => ?_⟩
   have := h.2 i hi
   unfold wpOpIn at this ⊢
   split
   · rename_i ho; rw [ho] at this; exact ih _ _ _ this
   · rename_i o ho
     rw [ho] at this
     simp only at this
     split
     · rename_i hw; rw [if_pos hw] at this; exact Oper.wpIn_mono (fun a' w' hh => ih _ _ _ hh) (opq_mono hq this)
     · rename_i hw; rw [if_neg hw] at this; exact ⟨this.1, ih _ _ _ this.2⟩
theorem op_in0 {o : Oper} {a : Act} {w : World} {K : Act → World → Prop} {Q : Exit → Act → World → Prop} {r : Option Nat} {n : Nat} (hd : zce o = false) (h : o.wp P a w K (fun _ _ _ => False)) : o.wpIn (FW r) n P a w K Q := by
 have h2 := op_in (r := r) (n := n) (ds := []) hd (fun ⟨_, _, h⟩ => h) h
 rw [List.append_nil] at h2
 exact Oper.wpIn_mono (fun a' w' hh => by
  obtain ⟨a0, hK, rfl⟩ := hh
  rw [List.append_nil]; exact hK) (opq_mono (fun e a w hq => by obtain ⟨_, h, _⟩ := hq; exact h.elim) h2)
def mark (D : Nat) : Deferred := { target := .collected D, args := #[] }
theorem zb5 {b : Frame} {a : Act} {k : List Item} {cs : List Frame} {w : World} {c : Code} : step P (lone (b.atR a (.code (.scope c) :: k)) cs w) = .next (lone (b.atR a (.code c :: .inScope c :: k)) cs w) :=
 step_lone_go (by simp [stepG, stepG.exec, Frame.atR])
theorem zne {b : Frame} {a : Act} {k : List Item} {cs : List Frame} {w : World} {c : Code} : step P (lone (b.atR a (.inScope c :: k)) cs w) = .next (lone (b.atR a k) cs w) :=
 step_lone_go (by simp [stepG, stepG.exec, Frame.atR])
theorem wpIn_scope {F : Fence} {n : Nat} {c : Code} {Q : Exit → Act → World → Prop} {a : Act} {w : World} (h : c.wpIn F n P (Exit.noGoto Q) a w) : (Code.scope c).wpIn F n P Q a w := by
 intro b k cs hro hb hr
 have h0 : (lone (b.atR a (.code (.scope c) :: k)) cs w).fenced P F := fenced_calm hb hr rfl
 obtain ⟨e, a₁, w₁, hq, harr⟩ := h b (.inScope c :: k) cs hro hb hr
 cases e with
 | normal => exact ⟨.normal, a₁, w₁, hq, .head h0 zb5 (StepsIn.trans harr (.one (fenced_calm hb hr rfl) zne))⟩
 | exit id' =>
   have hx : exitTo id' (.inScope c :: k) = exitTo id' k := by simp [exitTo]
   exact ⟨.exit id', a₁, w₁, hq, fun k' hk => .head h0 zb5 (harr.1 k' (by rw [hx]; exact hk)),
    fun hr' hk => let ⟨k₁, h1, h2⟩ := harr.2 hr' (by rw [hx]; exact hk); ⟨k₁, h1, .head h0 zb5 h2⟩⟩
 | goto l => exact hq.elim
 | ret => exact ⟨_, a₁, w₁, hq, .of_steps (.one h0 zb5) harr⟩
 | panic ch => exact ⟨_, a₁, w₁, hq, .of_steps (.one h0 zb5) harr⟩
 | outgrown => exact ⟨_, a₁, w₁, hq, .of_steps (.one h0 zb5) harr⟩
theorem lset_set : ∀ (l : List Value) (n : Nat) (v : Value), znk l n v = l.set n v
 | [], _, _ => rfl
 | _ :: _, 0, _ => rfl
 | x :: l, n + 1, v => by simp only [znk, List.set_cons_succ, lset_set l n v]
theorem zle : ∀ (ps : List Tmp) (as' : List Value) (t : Array Value), ((ps.zip as').foldl (fun (tmps : Array Value) (x : Tmp × Value) => tmps.setIfInBounds x.1 x.2) t).toList = zhk t.toList ps as'
 | [], as', t => by cases as' <;> rfl
 | p :: ps, [], t => by simp [zhk]
 | p :: ps, v :: as', t => by
   rw [List.zip_cons_cons, List.foldl_cons, zle ps as']
   simp only [zhk, lset_set, Array.toList_setIfInBounds]
theorem Same.put (w : World) (r : Nat) (o : Obj) : Same w (w.putObj r o) := ⟨rfl, rfl, rfl, Nat.le_refl _⟩
theorem Same.alloc (w : World) (o : Obj) : Same w (w.alloc o) := ⟨rfl, rfl, rfl, Nat.le_refl _⟩
end
section
open Go.Sort Go.Shelf
attribute [local irreducible] ze5 zjx delK zov zfp zjq zdj zgx zcw zbe zb0 zcp
theorem IterI.same {h : zab} {it : Nat} {r : Option Nat} {m : KV} {left left' : List Int} (a : IterI h it r m left) (b : IterI h it r m left') : left.length = left'.length := by
 cases r with
 | none => obtain ⟨-, rfl, -⟩ := a; obtain ⟨-, rfl, -⟩ := b; rfl
 | some b0 =>
   obtain ⟨-, es, clk, seen, g1, g2, g3, -, -, -, g4, g5, g6⟩ := a
   obtain ⟨-, es', clk', seen', k1, k2, k3, -, -, -, k4, k5, k6⟩ := b
   rw [g1] at k1; rw [g2] at k2
   cases k1; cases k2
   have hsub : ∀ x, x ∈ left ↔ x ∈ left' := fun x => by
    constructor
    · intro hx
      obtain ⟨p, hp, rfl⟩ := List.mem_map.1 (g6 x hx)
      obtain ⟨e, he, hk, -⟩ := zmk g3 hp
      exact (k4 e he _ hk).2 ((g4 e he _ hk).1 hx)
    · intro hx
      obtain ⟨p, hp, rfl⟩ := List.mem_map.1 (k6 x hx)
      obtain ⟨e, he, hk, -⟩ := zmk g3 hp
      exact (g4 e he _ hk).2 ((k4 e he _ hk).1 hx)
   exact ((List.perm_ext_iff_of_nodup g5 k5).2 hsub).length_eq
theorem IterI.nodup {h : zab} {it : Nat} {r : Option Nat} {m : KV} {left : List Int} (a : IterI h it r m left) : left.Nodup := by
 cases r with
 | none => obtain ⟨-, rfl, -⟩ := a; exact .nil
 | some b0 => obtain ⟨-, es, clk, seen, g1, g2, g3, -, -, -, g4, g5, g6⟩ := a; exact g5
open Classical in
noncomputable def leftN (it : Nat) (r : Option Nat) (h : zab) : Nat := if x : ∃ p : KV × List Int, IterI h it r p.1 p.2 then x.choose.2.length else 0
theorem entOf_inj {es : List MapEntry} {m m' : KV} (a : zfu es m) (b : zfu es m') : m = m' := by
 have : m.map (fun p => (Value.int .i64 p.1, p.2)) = m'.map (fun p => (Value.int .i64 p.1, p.2)) := a.symm.trans b
 refine List.map_inj_right (f := fun p : Int × Value => (Value.int .i64 p.1, p.2)) ?_ |>.1 this
 rintro ⟨x, v⟩ ⟨y, u⟩ e
 simpa using e
theorem zj9 {h : zab} {it : Nat} {r : Option Nat} {m : KV} {left : List Int} (a : IterI h it r m left) : leftN it r h = left.length := by
 unfold leftN
 have hx : ∃ p : KV × List Int, IterI h it r p.1 p.2 := ⟨(m, left), a⟩
 rw [dif_pos hx]
 have b := hx.choose_spec
 revert b
 generalize hx.choose = p
 obtain ⟨m', left'⟩ := p
 intro b
 have : m' = m := by
  cases r with
  | none => obtain ⟨e1, -⟩ := a; obtain ⟨e2, -⟩ := b; exact e2.trans e1.symm
  | some b0 =>
    obtain ⟨-, es, clk, seen, g1, g2, g3, -⟩ := a
    obtain ⟨-, es', clk', seen', k1, k2, k3, -⟩ := b
    simp only at k2 k3
    rw [g2] at k2; cases k2
    exact entOf_inj k3 g3
 subst this
 exact b.same a
abbrev StkT := { x : Stk // 1 ≤ x.1 ∧ x.1 ≤ 9223372036854775807 }
instance : Inhabited StkT := ⟨⟨(1, 0), by decide⟩⟩
theorem zp5 (x y : StkT) (h : zab) : Run Tryz.prog 202 [.agg (zh7 x.1).toArray, .agg (zh7 y.1).toArray] h fun v h' => v = .int .i64 (x.1.1 - y.1.1) ∧ zg8 h h' := by
 refine V202 _ _ _ _ _ _ ?_
 unfold VC202
 refine zcn fun h1 hb1 k1 s1 => zcn fun h2 hb2 k2 s2 => ?_
 refine ⟨_, k2.cell (by rw [zao hb1]; rfl) (by simp), _, by rw [zao hb2]; rfl, ?_, k1.trans k2⟩
 have h1 := x.2; have h2 := y.2
 rw [w64 (by omega) (by omega)]
theorem stackSWO : SWO (ltOf fun x y : StkT => x.1.1 - y.1.1) where
 irrefl x := by unfold ltOf; simp
 trans x y z h1 h2 := by unfold ltOf at *; simp only [decide_eq_true_eq] at *; omega
 ntrans x y z h1 h2 := by unfold ltOf at *; simp only [decide_eq_false_iff_not] at *; omega
theorem call201 : zdc Tryz.prog 201 := ⟨_, Tryz.func201, by kernel_rfl, by kernel_rfl⟩
theorem call202 : zdc Tryz.prog 202 := ⟨_, Tryz.func202, by kernel_rfl, by kernel_rfl⟩
theorem zlc {blk cap : Nat} {d : List Stk} {h : zab} {l : Array Value} {E : TypeId} (hb : h[blk]? = some (.cells l E (0, 0))) (hd : ∀ s ∈ d, 1 ≤ s.1 ∧ s.1 ≤ 9223372036854775807)
 (hl : ∀ (j : Nat) (v : Value), (d.flatMap zh7)[j]? = some v → l[j]? = some v) (hsz : d.length ≤ 1000) (hcap : d.length ≤ cap) :
 Run Tryz.prog 201 [.slice (some ⟨blk, 0, none⟩) d.length cap, .func (.func 202) #[] #[]] h fun v h' => v = .tuple #[] ∧ KB [blk] h h' ∧
  ∃ r : List Stk, r.Perm d ∧ r.Pairwise (fun x y => x.1 ≤ y.1) ∧ Sl h' (some ⟨blk, 0, none⟩) d.length cap r ∧ ∃ l' : Array Value, h'[blk]? = some (.cells l' E (0, 0)) ∧ l'.size = l.size := by
 obtain ⟨t, ht⟩ : ∃ t : List StkT, t.map (·.1) = d := ⟨d.pmap (fun x h => ⟨x, h⟩) hd, by simp [List.map_pmap]⟩
 subst ht
 have hkey := OwnS.slOf (enc := zh7) (xs := t.map (·.1)) (h := h) (B := 0) (e := E) (sz := 2) (a := some ⟨blk, 0, none⟩) (n := (t.map (·.1)).length) (c := (t.map (·.1)).length) ze2
 have main := sortRun (α := StkT) Tryz.sortL (f := 201) rfl call201 2 Tryz.isAgg102 Tryz.sizeOf102 (fun x => zh7 x.1) (fun _ => rfl)
  (fun x v hv => by simp [zh7] at hv; rcases hv with rfl | rfl <;> rfl) (fun x y => x.1.1 - y.1.1) stackSWO 202 call202 (fun x y h => zp5 x y h) (cap := cap) (d := t) hb
  (fun i x hx j v hv => ?_) (by simp at hsz; omega) (by simpa using hcap)
 · rw [List.length_map]
   refine main.mono ?_
   rintro v h' ⟨rfl, k, r, hp, hs, hsl, hlb⟩
   refine ⟨rfl, k, r.map (·.1), hp.map _, ?_, ?_, hlb⟩
   · rw [List.pairwise_map]
     exact hs.imp fun h => Decidable.byContradiction fun hc => h (by show (_ - _ : Int) < 0; omega)
   · refine ⟨by rw [List.length_map]; exact hsl.1, hsl.2.1, fun i x hx => ?_⟩
     rw [List.getElem?_map] at hx
     cases hy : r[i]? with
     | none => rw [hy] at hx; cases hx
     | some y =>
       rw [hy] at hx
       cases hx
       exact hsl.2.2 i y hy
 · refine hl _ v ?_
   clear hl hsz hcap hkey hb hd
   induction t generalizing i with
   | nil => simp at hx
   | cons y t ih =>
     rw [List.map_cons, List.flatMap_cons]
     cases i with
     | zero =>
       simp at hx; subst hx
       have hj := (List.getElem?_eq_some_iff.1 hv).1
       rw [Nat.zero_mul, Nat.zero_add, List.getElem?_append_left hj]
       exact hv
     | succ i =>
       rw [List.getElem?_append_right (by rw [ze2, Nat.succ_mul]; omega)]
       rw [ze2, show (i + 1) * 2 + j - 2 = i * 2 + j by omega]
       exact ih i (by simpa using hx)
theorem zmg {α : Type} {enc : α → List Value} {sz : Nat} (he : ∀ x, (enc x).length = sz) : ∀ (xs : List α) (j : Nat) (v : Value), (xs.flatMap enc)[j]? = some v → ∃ i t x, xs[i]? = some x ∧ (enc x)[t]? = some v ∧ j = i * sz + t
 | [], j, v, h => by simp at h
 | x :: xs, j, v, h => by
   rw [List.flatMap_cons] at h
   by_cases hj : j < sz
   · rw [List.getElem?_append_left (by rw [he]; exact hj)] at h
     exact ⟨0, j, x, rfl, h, by omega⟩
   · rw [List.getElem?_append_right (by rw [he]; omega), he] at h
     obtain ⟨i, t, y, h1, h2, h3⟩ := zmg he xs (j - sz) v h
     exact ⟨i + 1, t, y, by simpa using h1, h2, by rw [Nat.succ_mul]; omega⟩
theorem flatS_len {α : Type} {enc : α → List Value} {sz : Nat} (he : ∀ x, (enc x).length = sz) (xs : List α) : (xs.flatMap enc).length = xs.length * sz := by
 induction xs with
 | nil => simp
 | cons x xs ih => rw [List.flatMap_cons, List.length_append, ih, he, List.length_cons, Nat.succ_mul]; omega
theorem own_of {α : Type} {enc : α → List Value} {sz b n c : Nat} {E : TypeId} {h : zab} {xs : List α} {l : Array Value} (hb : h[b]? = some (.cells l E (0, 0))) (hl : l.size = c * sz) (he : ∀ x, (enc x).length = sz) (s : SlOf enc sz h (some ⟨b, 0, none⟩) n c xs) :
 OwnS b E sz h (some ⟨b, 0, none⟩) n c (xs.flatMap enc) := by
 refine .inr ⟨b, l, rfl, Nat.le_refl _, hb, hl, s.2.1, by rw [flatS_len he, s.1], fun j v hv => ?_⟩
 obtain ⟨i, t, x, h1, h2, rfl⟩ := zmg he xs j v hv
 obtain ⟨b', o', e, hc⟩ := s.2.2 i x h1
 cases e
 have := hc t v h2
 rw [zao hb, Nat.zero_add] at this
 exact this
theorem OwnS.mono {B B' b : Nat} {e : TypeId} {sz : Nat} {h : zab} {n c : Nat} {cs : List Value} (s : OwnS b e sz h (some ⟨b, 0, none⟩) n c cs) (_h1 : B ≤ B') (h2 : B' ≤ b) : OwnS B e sz h (some ⟨b, 0, none⟩) n c cs := by
 rcases s with ⟨h, -⟩ | ⟨b', l, e, -, r⟩
 · cases h
 · cases e; exact .inr ⟨b, l, rfl, by omega, r⟩
def ListedR (h : zab) (c : List Stk) (v : Value) (h' : zab) : Prop :=
 ∃ (a : Option Addr) (n cp : Nat) (r : List Stk), v = .slice a n cp ∧ Sl h' a n cp r ∧ zg8 h h' ∧ SN c r ∧ r.length ≤ c.length ∧ OwnS h.size 102 2 h' a n cp (r.flatMap zh7)
theorem zez {h : zab} {m : Option Nat} {c : List Stk} (hm : MapO h m (MVo c)) (hnd : (c.map (·.1)).Nodup) (hpos : ∀ p ∈ c, 1 ≤ p.1 ∧ 0 ≤ p.2 ∧ p.2 ≤ zha) (htop : ∀ p ∈ c, p.1 ≤ 9223372036854775807) (hlen : c.length ≤ 1000) :
 Run Tryz.prog 111 [.map m] h (ListedR h c) := by
 have hM : zha = 1125899906842624 := rfl
 refine V111 _ _ _ ?_
 unfold VC111
 refine range_spec tyM hm fun h1 hI k1 s1 => ?_
 refine ⟨fun p n cp h2 => ∃ (left : List Int) (out : List Stk), IterI h2 h.size m (MVo c) left ∧ zg8 h h2 ∧ OwnS (h.size + 1) 102 2 h2 p n cp (out.flatMap zh7) ∧ out.length = n ∧
  (∀ q, q ∈ out ↔ q ∈ c ∧ q.1 ∉ left ∧ 0 < q.2) ∧ (out.map (·.1)).Nodup ∧ out.length + left.length ≤ c.length, fun _ _ _ h2 => leftN h.size m h2, ⟨_, [], hI, k1, .nil _ _ _ _, rfl, fun q => ?_, .nil, ?_⟩, ?_⟩
 · constructor
   · intro h; simp at h
   · rintro ⟨h1, h2, -⟩
     exact absurd (by rw [zqq]; exact List.mem_map.2 ⟨q, h1, rfl⟩) h2
 · simp [MVo]
 rintro - h2 p n cp ⟨left, out, hI2, k2, own, hon, hout, hond, hol⟩
 refine next_spec hI2 (fun hl => ?_) (fun k x h3 hk hx hI3 k3 s3 => ?_)
 · subst hl
   have hfin : ∀ (h4 : zab) (r : List Stk), r.Perm out → r.Pairwise (fun x y => x.1 ≤ y.1) → SN c r := by
    intro h4 r hp hs
    have hrn : (r.map (·.1)).Nodup := (hp.map _).nodup_iff.2 hond
    refine ⟨?_, fun k n => ?_⟩
    · rw [List.Nodup, List.pairwise_map] at hrn
      exact (hs.and hrn).imp fun h => by omega
    · rw [hp.mem_iff, hout]
      constructor
      · rintro ⟨h1, -, h2⟩; exact ⟨(zd7 hnd h1).symm, h2⟩
      · rintro ⟨h1, h2⟩
        obtain ⟨p, hp, he⟩ := zb9 (l := c) (k := k) (by omega)
        have := zd7 hnd hp
        rw [he] at this
        have hpe : p = (k, n) := by obtain ⟨p1, p2⟩ := p; simp only at he this; subst he; rw [h1, this]
        subst hpe
        exact ⟨hp, by simp, h2⟩
   rcases own with ⟨rfl, rfl, rfl, h0⟩ | ⟨b, l, rfl, hb1, hb2, hb3, hb4, hb5, hb6⟩
   · have ho : out = [] := List.eq_nil_of_length_eq_zero hon
     subst ho
     refine (sortRun_none Tryz.sortL (f := 201) rfl call201).mono ?_
     rintro v h4 ⟨rfl, rfl⟩
     exact ⟨rfl, _, _, _, [], rfl, .nil _ _ _ _ _, k2, hfin h4 [] (.refl _) .nil, Nat.zero_le _, .nil _ _ _ _⟩
   · subst hon
     refine (zlc (d := out) hb2 (fun s hs => ⟨(hpos s ((hout s).1 hs).1).1, htop s ((hout s).1 hs).1⟩) hb6 (by omega) hb4).mono ?_
     rintro v h4 ⟨rfl, k4, r, hp, hs, hsl, l', hl1, hl2⟩
     exact ⟨rfl, _, _, _, r, rfl, hsl, ((KB.of_keep k2).trans k4).keep (by simp; omega), hfin h4 r hp hs, by rw [hp.length_eq]; omega, OwnS.mono (own_of hl1 (by rw [hl2, hb3]) (fun x => ze2 x) hsl) (Nat.le_succ _) hb1⟩
 · have hxc : ∃ n', x = .int .i64 n' ∧ (k, n') ∈ c := by
    obtain ⟨q, hq, he⟩ := List.mem_map.1 hx
    obtain ⟨q1, q2⟩ := q
    simp only [Prod.mk.injEq] at he
    obtain ⟨rfl, rfl⟩ := he
    exact ⟨q2, rfl, hq⟩
   obtain ⟨n', rfl, hc⟩ := hxc
   have hlt : leftN h.size m h3 < leftN h.size m h2 := by
    rw [zj9 hI2, zj9 hI3, List.length_erase_of_mem hk]
    have := List.length_pos_of_mem hk
    omega
   have hk3 : zg8 h h3 := ((KB.of_keep k2).trans k3).keep (by simp)
   have own3 : OwnS (h.size + 1) 102 2 h3 p n cp (out.flatMap zh7) := own.kb k3 fun b o he => by
    rcases own with ⟨rfl, -⟩ | ⟨b', l, rfl, hb1, -⟩
    · cases he
    · cases he; simp; omega
   have hmem : ∀ q : Stk, q ∈ c → q.1 = k → q = (k, n') := fun q hq he => by
    have h1 := zd7 hnd hq
    have h2 := zd7 hnd hc
    simp only at h2
    obtain ⟨q1, q2⟩ := q
    simp only at he h1
    subst he
    rw [← h1, ← h2]
   have hle : (left.erase k).length = left.length - 1 := List.length_erase_of_mem hk
   have hlp := List.length_pos_of_mem hk
   refine ⟨_, _, rfl, cIf (fun hp => ?_) (fun hp => ?_)⟩
   · refine zcn fun h4 hb4 k4 s4 => ?_
     refine app1 (x := (k, n')) (r := out) (B := h.size + 1) (own3.keep k4) (by have := hI3.lt; omega) (by omega) hb4 fun a' c' h5 own5 k5 hb5 => ?_
     have hge := own3.ge
     have hI5 : IterI h5 h.size m (MVo c) (left.erase k) := (hI3.kb k4 (by simp) (by simp)).kb k5 (fun hb => by have := hge _ hb; omega) (fun b he hb => by
      have h1 := hge _ hb
      subst he
      have := MapI.lt hm
      omega)
     refine ⟨_, _, _, rfl, ⟨_, _, hI5, ((KB.of_keep (hk3.trans k4)).trans k5).keep (fun b hb => by have := hge b hb; omega), own5, by simp [hon], fun q => ?_, ?_, ?_⟩, ?_⟩
     · rw [List.mem_append, hout, List.mem_singleton, List.Nodup.mem_erase_iff hI2.nodup]
       constructor
       · rintro (⟨h1, h2, h3⟩ | rfl)
         · exact ⟨h1, fun h => h2 h.2, h3⟩
         · exact ⟨hc, fun h => h.1 rfl, hp⟩
       · rintro ⟨h1, h2, h3⟩
         by_cases hq : q.1 = k
         · exact .inr (hmem q h1 hq)
         · exact .inl ⟨h1, fun h => h2 ⟨hq, h⟩, h3⟩
     · rw [List.map_append, List.nodup_append]
       refine ⟨hond, by simp, ?_⟩
       intro a ha b hb
       simp at hb; subst hb
       rintro rfl
       obtain ⟨q, hq, he⟩ := List.mem_map.1 ha
       have := ((hout q).1 hq).2.1
       exact this (by rw [he]; exact hk)
     · simp only [List.length_append, List.length_singleton]; omega
     · show leftN h.size m h5 < leftN h.size m h2
       rw [zj9 hI5, ← zj9 hI3]; exact hlt
   · refine ⟨⟨_, out, hI3, hk3, own3, hon, fun q => ?_, hond, by omega⟩, hlt⟩
     rw [hout, List.Nodup.mem_erase_iff hI2.nodup]
     constructor
     · rintro ⟨h1, h2, h3⟩; exact ⟨h1, fun h => h2 h.2, h3⟩
     · rintro ⟨h1, h2, h3⟩
       refine ⟨h1, fun h => h2 ⟨fun he => ?_, h⟩, h3⟩
       have := hmem q h1 he
       subst this
       exact hp h3
theorem SN.of_tots {l c r : List Stk} (h : SN c r) (ht : ∀ k, tot c k = tot l k) : SN l r := ⟨h.1, fun k n => by rw [h.2, ht]⟩
theorem SN.nil {r : List Stk} (h : SN [] r) : r = [] := by
 cases r with
 | nil => rfl
 | cons p r =>
   obtain ⟨k, n⟩ := p
   have := (h.2 k n).1 (by simp)
   simp only [tot] at this; omega
theorem MapO.nodup {h : zab} {r : Option Nat} {c : List Stk} (hm : MapO h r (MVo c)) : (c.map (·.1)).Nodup := by
 cases r with
 | none => have : c = [] := by simpa [MapO, MVo] using hm
           subst this; exact .nil
 | some b => rw [← zqq]; exact MapI.nodup hm
def NormO (h : zab) (l : List Stk) (v : Value) (h' : zab) : Prop :=
 ∃ (a : Option Addr) (n c : Nat) (r : List Stk) (e : Int), v = .tuple #[.slice a n c, .int .i64 e] ∧ OwnS h.size 102 2 h' a n c (r.flatMap zh7) ∧ Sl h' a n c r ∧ zg8 h h' ∧ NormP l e r
theorem OwnS.lower {B B' : Nat} {e : TypeId} {sz : Nat} {h : zab} {a : Option Addr} {n c : Nat} {cs : List Value} (s : OwnS B e sz h a n c cs) (hb : B' ≤ B) : OwnS B' e sz h a n c cs := by
 rcases s with h | ⟨b', l, e1, h1, r⟩
 · exact .inl h
 · exact .inr ⟨b', l, e1, Nat.le_trans hb h1, r⟩
theorem norm_spec {h : zab} {a : Option Addr} {n c : Nat} {l : List Stk} (s : Sl h a n c l) (hr : rng l) (hn : n ≤ 1000) : Run Tryz.prog 49 [.slice a n c] h (NormO h l) := by
 refine V49 _ _ _ _ _ ?_
 unfold VC49
 refine (ze4 s hr hn).mono ?_
 rintro v h1 ⟨r, m, e, rfl, hm, k1, -, he, h0, h1'⟩
 have hln : l.length = n := s.1
 refine ⟨_, _, rfl, ?_⟩
 by_cases hz : e = 0
 · obtain ⟨hcm, -⟩ := h0 hz
   refine (zez hm hm.nodup hcm.pos hcm.top (by have := hcm.len; omega)).mono ?_
   rintro v h2 ⟨a', n', c', q, rfl, hs, k2, hsn, hle, own⟩
   exact ⟨_, _, _, rfl, _, _, _, q, e, rfl, own.lower k1.size, hs, k1.trans k2, he, fun _ => hsn.of_tots hcm.tots, fun h => absurd hz h⟩
 · obtain ⟨rfl, rfl⟩ := h1' hz
   refine (zez hm hm.nodup (by simp) (by simp) (by simp)).mono ?_
   rintro v h2 ⟨a', n', c', q, rfl, hs, k2, hsn, hle, own⟩
   exact ⟨_, _, _, rfl, _, _, _, q, e, rfl, own.lower k1.size, hs, k1.trans k2, he, fun h => absurd h hz, fun _ => hsn.nil⟩
end
structure Loc where
 b : Nat
 a : Option Addr
 n : Nat
 c : Nat
 o : Option Obj
mutual
inductive Rp (D : Fz) (ρ : List Loc) : Value → V → Prop
 | u {v : Value} {x : U} : Rd D v x → Rp D ρ v (.u x)
 | r {b o : Nat} {L : Loc} : ρ[b]? = some L → Rp D ρ (.pointer (some ⟨L.b, o, none⟩)) (.r b o)
 | e {b sz o p q : Nat} {k : Int} {L : Loc} : ρ[b]? = some L → L.a = some ⟨p, q, none⟩ → 0 ≤ k → k < L.n → Rp D ρ (.pointer (some ⟨p, q + k.toNat * sz + o, none⟩)) (.e b sz k o)
 | g {b o w : Nat} {k : Int} {L : Loc} : ρ[b]? = some L → 0 ≤ k → k < w → Rp D ρ (.pointer (some ⟨L.b, o + k.toNat, none⟩)) (.g b o w k)
 | q {c : List U} {p o o' : Nat} : Rd D (.pointer (some ⟨p, o, none⟩)) (.p (some c)) → o' = o → ∀ n, Rp D ρ (.pointer (some ⟨p, o' + n, none⟩)) (.q c n)
 | w {b : Nat} {L : Loc} : ρ[b]? = some L → Rp D ρ (.slice L.a L.n L.c) (.w b)
 | c {a : Option Addr} {n sz : Nat} {rows : List (List U)} : Rd D (.slice a n n) (.l sz rows) → Rp D ρ (.slice a n n) (.c sz rows)
 | m {b : Nat} {L : Loc} : ρ[b]? = some L → Rp D ρ (.map (some L.b)) (.m b)
 | nm : Rp D ρ (.map none) .nm
 | nl {s : Nat} : Rp D ρ (.slice none 0 0) (.nl s)
 | f {g : FuncId} {xs ys : List Value} {a c : List V} : RpL D ρ xs a → RpL D ρ ys c → Rp D ρ (.func (.func g) xs.toArray ys.toArray) (.f g a c)
 | a {vs : List Value} {l : List V} : RpC D ρ vs l → Rp D ρ (.agg vs.toArray) (.a l)
 | t {vs : List Value} {l : List V} : RpL D ρ vs l → Rp D ρ (.tuple vs.toArray) (.t l)
 | z {v : Value} : Rp D ρ v .z
 | y {b : Nat} {L : Loc} : ρ[b]? = some L → Rp D ρ (.func (.yield L.b) #[] #[]) (.y b)
 | v {b sz l n cap : Nat} {c : Bool} {a : Option Addr} {L : Loc} : ρ[b]? = some L → l + n ≤ L.n → (l = 0 → a = L.a) → (0 < n → ∃ p q, L.a = some ⟨p, q, none⟩ ∧ a = some ⟨p, q + l * sz, none⟩) → n ≤ cap → (c = true → cap = n) → (c = false → l = 0 → cap = L.c) →
     Rp D ρ (.slice a n cap) (.v b sz l n c)
 | sl {b o n cap : Nat} {a : Option Addr} {L : Loc} : ρ[b]? = some L → (0 < n → a = some ⟨L.b, o, none⟩) → n ≤ cap → Rp D ρ (.slice a n cap) (.sl b o n)
inductive RpL (D : Fz) (ρ : List Loc) : List Value → List V → Prop
 | nil : RpL D ρ [] []
 | cons {v : Value} {x : V} {vs : List Value} {xs : List V} : Rp D ρ v x → RpL D ρ vs xs → RpL D ρ (v :: vs) (x :: xs)
inductive RpC (D : Fz) (ρ : List Loc) : List Value → List V → Prop
 | nil : RpC D ρ [] []
 | cons {v : Value} {x : V} {vs : List Value} {xs : List V} : Rp D ρ v x → (∀ k w l, x ≠ .n k w l) → RpC D ρ vs xs → RpC D ρ (v :: vs) (x :: xs)
 | n {k : IntKind} {w : Nat} {l : List Int} {vs : List Value} {xs : List V} : l.length = w → RpC D ρ vs xs → RpC D ρ (l.map (.int k) ++ vs) (.n k w l :: xs)
end
inductive MRel (D : Fz) (ag : Bool) : MV → List (MK × List U) → Prop
 | nil : MRel D ag [] []
 | cons {k : MK} {v : Value} {us : List U} {vs : List Value} {m : MV} {rows : List (MK × List U)} : RdL D vs us → cond ag (v = .agg vs.toArray) (vs = [v]) → MRel D ag m rows → MRel D ag ((k, v) :: m) ((k, us) :: rows)
inductive Ent (D : Fz) (ρ : List Loc) (L : Loc) : AB → zac → Prop
 | c {arr : List Value} {T : TypeId} {l : List V} : RpC D ρ arr l → Ent D ρ L (.c l) [(L.b, .cells arr.toArray T (0, 0))]
 | w {E sz : Nat} {rows : List (List U)} {ch : zac} : Own D E sz L.a L.c rows ch → L.n = rows.length → Ent D ρ L (.w E sz rows) ch
 | o {I : Ob} {ch : zac} : I.f D L.b ch → Ent D ρ L (.o I) ch
 | p {kt : KT} {sz : Nat} {ag : Bool} {rows : List (MK × List U)} {es : Array MapEntry} {clk : Nat} {mv : MV} : MpI kt es clk mv → MRel D ag mv rows → (∀ r ∈ rows, r.2.length = sz) → Ent D ρ L (.p kt sz ag rows) [(L.b, .map es clk)]
 | tk {ob : Obj} : L.o = some ob → Ent D ρ L .tk [(L.b, ob)]
 | x : Ent D ρ L .x []
 | cw {E sz n b : Nat} {vs ps : List Value} {l : List V} : L.a = some ⟨b, 0, none⟩ → L.n = n → RpC D ρ vs l → vs.length = n * sz → (vs ++ ps).length = L.c * sz → n ≤ L.c → Ent D ρ L (.cw E sz n l) [(b, .cells (vs ++ ps).toArray E (0, 0))]
structure SAt (D : Fz) (ρ : List Loc) (m : Mem) (chs C : List zac) (h : zab) : Prop where
 len : ρ.length = m.length
 lch : chs.length = m.length
 ent : ∀ (i : Nat) (L : Loc) (ab : AB) (ch : zac), ρ[i]? = some L → m[i]? = some ab → chs[i]? = some ch → Ent D ρ L ab ch
 st : St D (chs ++ C) h
def PRun (P : Program) (g : FuncId) (m : Mem) (args : List V) (Q : V → Mem → Prop) : Prop :=
 ∀ (D : Fz) (ρ : List Loc) (chs C : List zac) (h : zab) (vs : List Value), SAt D ρ m chs C h → RpL D ρ vs args →
   Run P g vs h fun v h' => ∃ (D' : Fz) (ρ' : List Loc) (chs' : List zac) (x : V) (m' : Mem), Le D D' ∧ SAt D' (ρ ++ ρ') m' chs' C h' ∧ Rp D' (ρ ++ ρ') v x ∧ Q x m'
abbrev RP.I : RP := .one (.i .i64)
abbrev RP.B : RP := .one .b
abbrev RP.L (s : Nat) : RP := .one (.l s)
def patZ : Value × Nat → Pt
 | (.int k _, _) => .i k
 | (.bool _, _) => .b
 | (.string _, _) => .s
 | (.slice .., s) => .l s
 | (.pointer _, _) => .p
 | _ => .z
def patT (P : Program) (T : TypeId) : RP :=
 match zpq P T with
 | some (.one z) => .one (patZ z)
 | some (.many zs) => .agg (zs.map patZ)
 | none => .one .z
def patC (m : Mem) : V → Pt
 | .u (.i k _) => .i k
 | .u (.b _) => .b
 | .u (.s _) => .s
 | .u (.l s _) => .l s
 | .u (.p _) => .p
 | .q _ 0 => .p
 | .c s _ => .l s
 | .nl s => .l s
 | .n _ w _ => .n w
 | .w j => match mg m j with
   | .w E sz _ => .ow E sz
   | _ => .z
 | .r j o => .r j o
 | .m j => .m j
 | .nm => .nm
 | _ => .z
def patA (m : Mem) (own : Bool) : AB → BP
 | .o _ => .A
 | .x => .X
 | .tk => .X
 | .w E sz _ => cond own (.row E sz) .X
 | .p kt sz ag _ => .mp kt sz ag
 | .c l => .c (l.map (patC m))
 | .cw .. => .X
def zni (P : Program) : List TypeId → List V → List V
 | T :: Ts, v :: l => datV (zdb P T v) :: zni P Ts l
 | _, l => l
def zel (P : Program) (gc : Bool) : List TypeId → List V → List V
 | T :: Ts, v :: l => cond gc (zdb P T v) (datV (zdb P T v)) :: zel P gc Ts l
 | _, l => l
def frzV (ro : List Nat) (m : Mem) : V → Option (V × Mem)
 | .w b => match toU ro m (.w b) with
   | some (u, m1) => some (.u u, m1)
   | none => none
 | .a l => match frzC m l with
   | some (l', m1) => some (.a l', m1)
   | none => none
 | v => some (v, m)
where frzC : Mem → List V → Option (List V × Mem)
 | m, [] => some ([], m)
 | m, .w b :: l => match toU ro m (.w b) with
   | some (u, m1) => match frzC m1 l with
     | some (l', m2) => some (.u u :: l', m2)
     | none => none
   | none => none
 | m, v :: l => match frzC m l with
   | some (l', m2) => some (v :: l', m2)
   | none => none
def frzL (ro : List Nat) : Mem → List V → Option (List V × Mem)
 | m, [] => some ([], m)
 | m, v :: l => match frzV ro m v with
   | some (v', m1) => match frzL ro m1 l with
     | some (l', m2) => some (v' :: l', m2)
     | none => none
   | none => none
def zjd : List Nat → Nat → Nat → Nat
 | [], _, k => k
 | x :: l, b, k => cond (Nat.beq x b) k (zjd l b (k + 1))
def nthN : List Nat → Nat → Nat
 | [], _ => 0
 | x :: _, 0 => x
 | _ :: l, n + 1 => nthN l n
def oneV : List V → V
 | [v] => v
 | l => .t l
def roEq (ro : List Nat) (m m' : Mem) : List Nat → Prop → Prop
 | [], K => K
 | b :: ix, K => cond (inL ro b) (mg m' b = mg m b ∧ roEq ro m m' ix K) (roEq ro m m' ix K)
def resX (rs : List RP) (x : V) : List V :=
 match rs, x with
 | [_], x => [x]
 | _, .t l => l
 | _, x => [x]
def oneR (rs : List RP) (xs : List V) : V :=
 match rs with
 | [_] => oneV xs
 | _ => .t xs
def post (rs : List RP) (bs : List BP) (F : PtT Prop (rs.flatMap RP.ps ++ bs.flatMap BP.ps)) (x : V) (m' : Mem) : Prop :=
 match pkR bs.length m' rs (resX rs x) with
 | some (os, m1) => match pkB bs.length m1 bs (List.range bs.length) with
   | some (os2, _) => apP False _ F (os ++ os2)
   | none => False
 | none => False
structure KN (P : Program) where
 f : FuncId → Mem → List V → Option (V × Mem)
 ok : ∀ g m a r, f g m a = some r → PRun P g m a fun x m' => x = r.1 ∧ m' = r.2
def KN.no {P : Program} : KN P := ⟨fun _ _ _ => none, fun _ _ _ _ h => nomatch h⟩
structure Nx (ro hr : List Nat) (D : Fz) (ρ : List Loc) (m : Mem) (chs : List zac) (D' : Fz) (ρ' : List Loc) (m' : Mem) (chs' : List zac) : Prop where
 le : Le D D'
 pre : ∃ s, ρ' = ρ ++ s
 keep : ∀ b, inL hr b = true → b < m.length → chs'[b]? = chs[b]?
 same : ∀ b, inL (hr ++ ro) b = true → b < m.length → mg m' b = mg m b
 len : m.length ≤ m'.length
def zcy (ro hr : List Nat) (D : Fz) (ρ : List Loc) (m : Mem) (chs C : List zac) (KS : V → Mem → Prop) (v : Value) (h' : zab) : Prop :=
 ∃ D' ρ' m' chs' x, Nx ro hr D ρ m chs D' ρ' m' chs' ∧ SAt D' ρ' m' chs' C h' ∧ Rp D' ρ' v x ∧ KS x m'
def zgr (P : Program) (X : Fz → List Loc → Prop) (ro hr : List Nat) (call : zb8) : Prop :=
 ∀ {g : FuncId} {args : List V} {m : Mem} {KS : V → Mem → Prop} {D : Fz} {ρ : List Loc} {chs C : List zac} {h : zab} {vs : List Value}, X D ρ → call g args m KS → SAt D ρ m chs C h → RpL D ρ vs args → Run P g vs h (zcy ro hr D ρ m chs C KS)
def Stab (X : Fz → List Loc → Prop) : Prop := ∀ {D D' : Fz} {ρ : List Loc} (s : List Loc), X D ρ → Le D D' → X D' (ρ ++ s)
structure SP (P : Program) where
 f : List Nat → zb8 → FuncId → List V → Mem → (V → Mem → Prop) → Option Prop
 ok : ∀ {ro hr : List Nat} {X : Fz → List Loc → Prop} {call : zb8}, Stab X → zgr P X ro hr call → ∀ {g : FuncId} {args : List V} {m : Mem} {KS : V → Mem → Prop} {p : Prop}, f (hr ++ ro) call g args m KS = some p → p →
  ∀ {D : Fz} {ρ : List Loc} {chs C : List zac} {h : zab} {vs : List Value}, X D ρ → SAt D ρ m chs C h → RpL D ρ vs args → Run P g vs h (zcy ro hr D ρ m chs C KS)
def SP.no {P : Program} : SP P := ⟨fun _ _ _ _ _ _ => none, fun {_ _ _ _} _ _ {_ _ _ _ _} h => by cases h⟩
structure SH (P : Program) where
 lo : List ((Nat × Nat × Nat) × Hint)
 jo : List ((Nat × Nat × Nat) × Hint)
 inl : List Nat
 ow : List Nat
 ps : List (Nat × List RP × List BP)
 own : Bool
 n : Nat
 kn : KN P
 gc : Bool
 sp : SP P
def findH : List ((Nat × Nat × Nat) × Hint) → Nat → Nat → Nat → Option Hint
 | [], _, _, _ => none
 | (k, h) :: l, f, r, n => cond (Nat.beq k.1 f && Nat.beq k.2.1 r && Nat.beq k.2.2 n) (some h) (findH l f r n)
def findP : List (Nat × List RP × List BP) → Nat → Option (List RP × List BP)
 | [], _ => none
 | (k, h) :: l, g => cond (Nat.beq k g) (some h) (findP l g)
def ze8 (ix : List Nat) : List Nat → Bool
 | [] => true
 | b :: l => inL ix b && ze8 ix l
def disj (hr : List Nat) : List Nat → Bool
 | [] => true
 | b :: l => !inL hr b && disj hr l
def zia (n : Nat) : List Nat → Bool
 | [] => true
 | b :: l => Nat.ble (b + 1) n && zia n l
def znv (m : Mem) (ix : List Nat) : Mem := ix.map fun b => renA (fun b => zjd ix b 0) (mg m b)
def datM : Mem → Mem
 | [] => []
 | a :: m => datA a :: datM m
def canonK (ix : List Nat) (t : List V) (m : Mem) (K : List V → Mem → Prop) : Prop :=
 cond (ze8 ix (zak t) && ze8 ix (ix.flatMap fun b => zci (mg m b)) && zia m.length ix) (K (zes (fun b => zjd ix b 0) t) (znv m ix)) False
def zc5 (n : Nat) (K : List V → Mem → Prop) (t : List V) (m : Mem) : Prop :=
 cond (Nat.ble m.length (n + 1)) (K t m) (canonK (clo m 1000 (zak t ++ (m.take n).flatMap zci) (List.range n)) t m K)
def dup2 (A : Prop) : Prop := A ∧ A
def callQ (P : Program) (kn : KN P) (g : FuncId) (m : Mem) (a : List V) (Q : V → Mem → Prop) : Prop :=
 match kn.f g m a with
 | some r => Q r.1 r.2
 | none => PRun P g m a Q
def callT (P : Program) (kn : KN P) (ro hr : List Nat) (g : FuncId) (ix : List Nat) (rs : List RP) (bs : List BP) (as' : List V) (m1 : Mem) (K : V → Mem → Prop) : Prop :=
 cond (disj hr ix && zia m1.length ix && ze8 ix (zak as') && ze8 ix (ix.flatMap fun b => zci (mg m1 b)) && Nat.beq bs.length ix.length)
  (callQ P kn g (datM (znv m1 ix)) (zes (fun b => zjd ix b 0) as') (post rs bs (mkP _ fun is =>
   roEq ro m1 (reB (nthN ix) (reR (nthN ix) (zdo m1 ix) rs is).2.2 bs ix (reR (nthN ix) (zdo m1 ix) rs is).2.1) ix
    (K (oneR rs (reR (nthN ix) (zdo m1 ix) rs is).1) (reB (nthN ix) (reR (nthN ix) (zdo m1 ix) rs is).2.2 bs ix (reR (nthN ix) (zdo m1 ix) rs is).2.1))))) False
def patsA (m1 : Mem) (as' : List V) (ix : List Nat) : List BP := ix.map fun b => patA (znv m1 ix) (inL (zak as') b) (renA (fun b => zjd ix b 0) (mg m1 b))
def callS (P : Program) (H : SH P) (ro hr : List Nat) (fn : Func) (g : FuncId) (args : List V) (m : Mem) (K : V → Mem → Prop) : Prop :=
 match cond (inL H.ow g) (some (zni P fn.params.toList args, m)) (frzL (hr ++ ro) m (zni P fn.params.toList args)) with
 | none => False
 | some (as', m1) => match findP H.ps g with
   | some ps => callT P H.kn ro hr g (clo m1 1000 (zak as') []) ps.1 ps.2 as' m1 K
   | none => callT P H.kn ro hr g (clo m1 1000 (zak as') []) (fn.resultTypes.toList.map (patT P)) (patsA m1 as' (clo m1 1000 (zak as') [])) as' m1 K
abbrev zeq := Ex → List V → Mem → Prop
def thenS (K : List V → Mem → Prop) (Q : zeq) : zeq
 | .nrm, t, h => K t h
 | .ext i, t, h => Q (.ext i) t h
 | .ret, t, h => Q .ret t h
def blockS (id : Nat) (Q : zeq) : zeq
 | .nrm, t, h => Q .nrm t h
 | .ext j, t, h => cond (Nat.beq j id) (Q .nrm t h) (Q (.ext j) t h)
 | .ret, t, h => Q .ret t h
def resL (P : Program) : List ResultVar → List V → Mem → (List V → Prop) → Prop
 | [], _, _, K => K []
 | .tmp i :: l, t, m, K => resL P l t m fun vs => K (zdx t i :: vs)
 | .cell i T :: l, t, m, K => sLoad P T (zdx t i) m fun v => resL P l t m fun vs => K (v :: vs)
def retG (P : Program) (gc : Bool) (fn : Func) (K : V → Mem → Prop) : zeq
 | .ext _, _, _ => False
 | _, t, m => resL P fn.results.toList t m fun vs => K (oneV (zel P gc fn.resultTypes.toList vs)) m
def zfr (P : Program) (gc : Bool) (fn : Func) (args : List V) : List V := zel P gc fn.params.toList args ++ List.replicate (fn.ntmps - args.length) .z
abbrev retS (P : Program) (fn : Func) (K : V → Mem → Prop) : zeq := retG P false fn K
abbrev frame0 (P : Program) (fn : Func) (args : List V) : List V := zfr P false fn args
abbrev SelfT := Nat → List Nat → List Nat → Code → zeq → List V → Mem → Prop
def wkV : V → V
 | .nl s => .c s []
 | x => x
def gcQ (gc : Option Nat) (K : V → Mem → Prop) (x : V) (m : Mem) : Prop :=
 match gc with
 | some n => zc5 n (fun t m2 => K (zdx t 0) m2 ∨ K (wkV (zdx t 0)) m2) [x] m
 | none => K x m
def zgp (P : Program) (H : SH P) (self : SelfT) (ro hr : List Nat) : zb8 := fun g args m K =>
 match P.funcs[g]? with
 | none => False
 | some fn => cond (inL H.inl g)
  (match fn.body with
   | none => False
   | some c => cond (fn.name == "runtime.NumGoroutine") False (self g ro hr c (retG P H.gc fn (gcQ (cond H.gc (some m.length) none) K)) (zfr P H.gc fn args) m))
  (callS P H ro hr fn g args m K)
def zdu (P : Program) (H : SH P) (self : SelfT) (ro hr : List Nat) : zb8 := fun g args m K =>
 match H.sp.f (hr ++ ro) (zgp P H self ro hr) g args m K with
 | some p => p
 | none => zgp P H self ro hr g args m K
def gcT (gc : Option Nat) (K : List V → Mem → Prop) (t : List V) (m : Mem) : Prop :=
 match gc with
 | some n => zc5 n K t m
 | none => K t m
def rnds (gc : Option Nat) (step : zeq → List V → Mem → Prop) (Q : zeq) : Nat → List V → Mem → Prop
 | 0, _, _ => False
 | n + 1, t, m => step (thenS (gcT gc (rnds gc step Q n)) Q) t m
inductive YC where
 | out | rd | it (b : Nat) (f : List Nat → List Nat → List V → Mem → (V → Mem → Prop) → Prop)
abbrev SelfY := YC → SelfT
def YC.sub : YC → YC
 | .it b f => .it b f
 | _ => .out
def YC.h (Y : YC) (ro hr : List Nat) (b : Nat) (args : List V) (m : Mem) (K : V → Mem → Prop) : Prop :=
 match Y with
 | .it b' f => cond (Nat.beq b b') (f ro hr args m K) False
 | _ => False
def setA : List V → List Tmp → List V → List V
 | t, p :: ps, v :: vs => setA (zk5 t p v) ps vs
 | t, _, _ => t
def isY (a : AB) (K : Prop) : Prop :=
 match a with
 | .tk => K
 | _ => False
theorem isY_iff {a : AB} {K : Prop} (h : isY a K) : a = .tk ∧ K := by
 cases a <;> first | exact ⟨rfl, h⟩ | exact h.elim
def noEx (c : Code) : Bool := match zfs c with | [] => true | _ => false
def vcC (P : Program) (H : SH P) (self : SelfY) (fi : Nat) : Code → YC → List Nat → List Nat → zeq → List V → Mem → Prop
 | .skip, _, _, _, Q, t, m => Q .nrm t m
 | .region _ ops d, Y, hr, ro, Q, t, m =>
   cond (ops.toList.all fun o => !zce o) (cond d (cond (zg2 ops.toList ops.toList.length [] && Region.noSelect ops.toList.toArray) (zfv P H.gc ro hr (zdu P H (self Y.sub) ro) ops.toList (zc5 m.length (Q .nrm)) ops.toList.length [] [] t m) False)
    (zea P H.gc (hr ++ ro) (zdu P H (self Y.sub) ro hr) (Y.h ro hr) ops.toList (Q .nrm) ops.toList t m)) False
 | .seq x y, Y, hr, ro, Q, t, m =>
   match findH H.jo fi (zai y) m.length with
   | none => vcC P H self fi x Y hr ro (thenS (vcC P H self fi y Y hr ro Q) Q) t m
   | some h => cond (disj (hr ++ ro) (h.tk t m) && zia m.length (h.bl.map (·.1))) (
     ∀ k : PtT Prop h.ps, allP h.ps (zipP (fun (A B : Prop) => A → B) h.ps (mkP h.ps fun is => vcC P H self fi y Y hr ro Q (h.st (zbl x) t m is).1 (h.st (zbl x) t m is).2) k) →
       vcC P H self fi x Y hr (roOf (h.base t m) 0 ++ ro) (thenS (fun t' m' => h.el (h.base t m) k t' m') Q) t m) False
 | .cond c x y, Y, hr, ro, Q, t, m => match evS t c with
   | .u (.b b) => cond b (vcC P H self fi x Y hr ro Q t m) (vcC P H self fi y Y hr ro Q t m)
   | _ => False
 | .block id c, Y, hr, ro, Q, t, m => vcC P H self fi c Y hr ro (blockS id Q) t m
 | .loop c, Y, hr, ro, Q, t, m =>
   match findH H.lo fi (zai c) m.length with
   | none => rnds (cond H.gc (some m.length) none) (fun Q => vcC P H self fi c Y hr ro Q) Q H.n t m
   | some h => cond (disj (hr ++ ro) (h.tk t m) && zia m.length (h.bl.map (·.1))) (
     ∃ (I : PtT Prop h.ps) (f : PtT Nat h.ps), h.el (h.base t m) I t m ∧
       allP h.ps (zipP (fun (A B : Prop) => A → B) h.ps I (zipP (fun (n : Nat) (B : Nat → Prop) => B n) h.ps f (mkP h.ps fun is n =>
        vcC P H self fi c Y hr (roOf (h.base t m) 0 ++ ro) (thenS (fun t' m' => h.el (h.base t m) (zipP (fun (A : Prop) n' => A ∧ n' < n) h.ps I f) t' m') Q) (h.st (zbl c) t m is).1 (h.st (zbl c) t m is).2)))) False
 | .exit id, _, _, _, Q, t, m => Q (.ext id) t m
 | .ret, _, _, _, Q, t, m => Q .ret t m
 | .scope c, Y, hr, ro, Q, t, m => vcC P H self fi c Y hr ro Q t m
 | .label _, _, _, _, Q, t, m => Q .nrm t m
 | .rangeFunc g ps assign body, .out, hr, ro, Q, t, m =>
   match evS t g with
   | .f gi as' cs => match P.funcs[gi]? with
     | none => False
     | some fn => match fn.body with
       | none => False
       | some c => cond (fn.name == "runtime.NumGoroutine" || !noEx body) False (
         self (.it m.length fun ro' hr' args m1 K => isY (mg m1 m.length) (cond (Nat.beq args.length ps.size) (vcC P H self fi assign .rd hr' ro'
          (thenS (fun t2 m2 => vcC P H self fi body .rd hr' ro' (fun e _ m3 => match e, mg m3 m.length with
           | .nrm, .x => K (.u (.b true)) (ms m3 m.length .tk)
           | _, _ => False) t2 m2) fun _ _ _ => False) (setA t ps.toList args) (ms m1 m.length .x)) False))
          gi ro hr c (retG P H.gc fn fun _ m' => isY (mg m' m.length) (Q .nrm t (ms m' m.length .x))) (zfr P H.gc fn (as' ++ [.y m.length] ++ cs)) (m ++ [.tk]))
   | _ => False
 | _, _, _, _, _, _, _ => False
def zg9 (P : Program) (H : SH P) : Nat → SelfY
 | 0, _, _, _, _, _, _, _, _ => False
 | n + 1, Y, fi, ro, hr, c, Q, t, m => vcC P H (zg9 P H n) fi c Y hr ro Q t m
def endT (Q : V → Mem → Prop) (x : V) (m : Mem) (ix : List Nat) : Prop :=
 cond (ze8 ix (zae x) && ze8 ix (ix.flatMap fun b => zci (mg m b)) && zia m.length ix) (Q (zch (fun b => zjd ix b 0) x) (znv m ix)) False
def frzX (own : Bool) (m : Mem) : V → Option (V × Mem)
 | .t l => cond own (some (.t l, m)) (match frzL [] m l with | some (l', m1) => some (.t l', m1) | none => none)
 | x => cond own (some (x, m)) (frzV [] m x)
def endS (own : Bool) (n : Nat) (Q : V → Mem → Prop) (x : V) (m : Mem) : Prop :=
 match frzX own m x with
 | none => False
 | some (x1, m1) => endT Q x1 m1 (clo m1 1000 (zae x1 ++ (m1.take n).flatMap zci) (List.range n))
def zqv (P : Program) (H : SH P) (n : Nat) (f : FuncId) (fn : Func) (m : Mem) (args : List V) (Q : V → Mem → Prop) : Prop :=
 match fn.body with
 | none => False
 | some c => zg9 P H n .out f [] [] c (retS P fn (endS H.own m.length Q)) (frame0 P fn args) m
end Go.Proofs.YtobdpeelaadkbaaGreat
