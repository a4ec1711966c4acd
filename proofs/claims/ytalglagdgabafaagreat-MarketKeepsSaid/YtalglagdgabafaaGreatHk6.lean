/- What a small world begins with: a purse, bins, a queue. -/
import Derived.Test.YtalglagdgabafaaGreatHk5
import Derived.Test.YtalglagdgabafaaGreatProg
import Derived.RecoverIn
import Derived.Test.YtalglagdgabafaaGreatRows
import Derived.ProofKit
import Derived.Deep.SlicePairs
set_option linter.unusedVariables false
namespace Go.Proofs.YtalglagdgabafaaGreat
open _root_.Bool renaming and_eq_true → z17, eq_false_iff → z6h, false_eq_true → z3n, not_eq_true' → z2u, not_true → z3s, or_eq_true → z34, true_and → z4l
open _root_.Int renaming eq_ofNat_of_zero_le → z4e, le_refl → z2v, natCast_mul → z42, ofNat_eq_natCast → z4q, toNat → z16, toNat_natCast → z27, zero_add → z5j
open _root_.Go.IntKind renaming wrap → z13
open _root_.List renaming all_eq_true → z29, append_assoc → z2m, append_nil → z3a, drop_succ_cons → z59, drop_zero → z38, eq_nil_of_length_eq_zero → z3w, filter_cons_of_neg → z3q, filter_cons_of_pos → z3m, filter_eq_nil_iff → z5i, find?_eq_none → z5n, find?_some → z5z, flatten_append → z21, flatten_cons → z2n, getElem?_append → z5x, getElem?_append_left → z2k, getElem?_append_right → z2t, getElem?_eq_getElem → z2c, getElem?_eq_none → z3u, getElem?_eq_some_iff → z2a, getElem?_map → z2i, getElem?_set → z31, getElem?_set_ne → z23, getElem_mem → z4y, length → z15, length_append → z2z, length_cons → z2o, length_eq_zero_iff → z6o, length_filter_le → z44, length_map → z2d, length_nil → z36, length_set → z3d, length_take → z33, map → z26, map_append → z28, map_cons → z2s, map_set → z43, map_take → z5b, mem_append → z2f, mem_append_left → z64, mem_cons → z2e, mem_cons_of_mem → z2j, mem_cons_self → z2p, mem_filter → z3p, mem_iff_getElem? → z3t, mem_map → z20, mem_of_find?_eq_some → z5y, mem_of_getElem? → z2y, mem_singleton → z3v, mem_singleton_self → z2x, nodup_append → z4u, nodup_cons → z4d, pairwise_cons → z3l, pairwise_iff_getElem → z5q, pairwise_map → z6g, perm_append_comm → z5a, perm_append_comm_assoc → z3g, perm_middle → z4z, range → z2b, replicate → z2g, replicate_succ → z4j, set → z2q, take_append_drop → z4c, take_length → z4r, take_succ_eq_append_getElem → z6m
open _root_.Nat renaming add_mul → z3i, beq → z14, ble → z19, ble_eq_true_of_le → z32, div_eq_iff → z6p, eq_of_beq_eq_true → z18, exists_eq_add_of_le → z62, le_of_ble_eq_true → z2w, le_refl → z2r, lt_or_ge → z3z, mul_le_mul_left → z63, mul_le_mul_right → z3e, zero_add → z2l, zero_le → z3j
open _root_.Option renaming getD_some → z3b, isSome_iff_exists → z6b, map_eq_some_iff → z3k, map_some → z3h
section
set_option maxRecDepth 100000
theorem mixTs : Tryz.prog.follows .mixedOrders = true := by kernel_rfl
theorem S114 {g_0 : List (List U)} {g_1 : List (MK × List U)} {m_0 : Int} {m_1 : Int} {m_2 : Int} {m_3 : Int} {Q : V → Mem → Prop} (hh : ∀ k1 : Prop, ((mO (ze5 g_1 (.a [m_1, m_2])) (fun r1 => (dI .i64 (ug r1 0) (fun x1 => 0 ≤ x1 ∧ x1 < (z15 g_0 : Int) ∧ (elL g_0 x1 (fun r2 => dI .i64 (ug r2 0) (fun x2 => dI .i64 (ug r2 1) (fun x3 => dI .i64 (ug r2 2) (fun x4 => dI .i64 (ug r2 3) (fun x5 => Q (.i 9) [.c [.w 1, .m 2], .w 54 4 g_0, .p (.a 2) 1 false g_1]))))))) : Prop)) (bif decide ((z15 g_0 : Int) ≥ 128) then Q (.i 4) [.c [.w 1, .m 2], .w 54 4 g_0, .p (.a 2) 1 false g_1] else zbo g_0 [[.n m_0, .n m_1, .n m_2, .n m_3]] ∧ (Q (.i 0) [.c [.w 3, .m 2], .x, .p (.a 2) 1 false (zdf g_1 (.a [m_1, m_2]) [.n (z15 g_0 : Int)]), .w 54 4 (g_0 ++ [[.n m_0, .n m_1, .n m_2, .n m_3]])]))) → k1) → ∀ k2 : Bool → Prop, (∀ b1 : Bool, ((bif b1 then Q (.i 1) [.c [.w 1, .m 2], .w 54 4 g_0, .p (.a 2) 1 false g_1] else k1)) → k2 b1) → (bif decide (m_0 < 0) then k2 true else (bif decide (m_0 > 1099511627776) then k2 true else (bif decide (m_2 < 1) then k2 true else (bif decide (m_2 > 1099511627776) then k2 true else (bif m_1 == 1 then (bif m_3 == 4 then (bif (z15 g_0 : Int) == 0 then k2 (decide (m_0 < 0)) else 0 ≤ z13 .i64 ((z15 g_0 : Int) - 1) ∧ z13 .i64 ((z15 g_0 : Int) - 1) < (z15 g_0 : Int) ∧ (elL g_0 (z13 .i64 ((z15 g_0 : Int) - 1)) (fun r3 => dI .i64 (ug r3 0) (fun x6 => k2 (decide (m_0 < x6)))))) else (bif !(m_3 == 6) then k2 true else (bif (z15 g_0 : Int) == 0 then k2 (decide (m_0 < 0)) else 0 ≤ z13 .i64 ((z15 g_0 : Int) - 1) ∧ z13 .i64 ((z15 g_0 : Int) - 1) < (z15 g_0 : Int) ∧ (elL g_0 (z13 .i64 ((z15 g_0 : Int) - 1)) (fun r4 => dI .i64 (ug r4 0) (fun x7 => k2 (decide (m_0 < x7)))))))) else (bif m_1 == 2 then (bif decide (m_3 ≥ 3) then (bif !(decide (m_3 ≤ 7)) then k2 true else (bif (z15 g_0 : Int) == 0 then k2 (decide (m_0 < 0)) else 0 ≤ z13 .i64 ((z15 g_0 : Int) - 1) ∧ z13 .i64 ((z15 g_0 : Int) - 1) < (z15 g_0 : Int) ∧ (elL g_0 (z13 .i64 ((z15 g_0 : Int) - 1)) (fun r5 => dI .i64 (ug r5 0) (fun x8 => k2 (decide (m_0 < x8))))))) else k2 true) else k2 true))))))) : PRun Tryz.prog 114 [.c [.w 1, .m 2], .w 54 4 g_0, .p (.a 2) 1 false g_1] [.r 0 0, .a [.i m_0, .i m_1, .i m_2, .i m_3]] Q :=
 zak mixTs Tryz.func114 (by kernel_rfl) (H := ⟨[], [((114, 2, 4), ⟨[(20, .B)], []⟩), ((114, 3, 4), ⟨[], []⟩)], [18, 157, 158], [], [], false, 64, KN.no, false, SP.no⟩) (n := 3) (by kernel_rfl) hh
theorem S114e {m_0 : Int} {m_1 : Int} {m_2 : Int} {m_3 : Int} {Q : V → Mem → Prop} (hh : bif decide (m_0 < 0) then Q (.i 1) [.c [.nl 4, .nm]] else (bif decide (m_0 > 1099511627776) then Q (.i 1) [.c [.nl 4, .nm]] else (bif decide (m_2 < 1) then Q (.i 1) [.c [.nl 4, .nm]] else (bif decide (m_2 > 1099511627776) then Q (.i 1) [.c [.nl 4, .nm]] else (bif m_1 == 1 then (bif m_3 == 4 then (bif decide (m_0 < 0) then Q (.i 1) [.c [.nl 4, .nm]] else zbo [] [[.n m_0, .n m_1, .n m_2, .n m_3]] ∧ (Q (.i 0) [.c [.w 1, .m 2], .w 54 4 [[.n m_0, .n m_1, .n m_2, .n m_3]], .p (.a 2) 1 false [((.a [m_1, m_2]), [.n 0])]])) else (bif !(m_3 == 6) then Q (.i 1) [.c [.nl 4, .nm]] else (bif decide (m_0 < 0) then Q (.i 1) [.c [.nl 4, .nm]] else zbo [] [[.n m_0, .n m_1, .n m_2, .n m_3]] ∧ (Q (.i 0) [.c [.w 1, .m 2], .w 54 4 [[.n m_0, .n m_1, .n m_2, .n m_3]], .p (.a 2) 1 false [((.a [m_1, m_2]), [.n 0])]])))) else (bif m_1 == 2 then (bif decide (m_3 ≥ 3) then (bif !(decide (m_3 ≤ 7)) then Q (.i 1) [.c [.nl 4, .nm]] else (bif decide (m_0 < 0) then Q (.i 1) [.c [.nl 4, .nm]] else zbo [] [[.n m_0, .n m_1, .n m_2, .n m_3]] ∧ (Q (.i 0) [.c [.w 1, .m 2], .w 54 4 [[.n m_0, .n m_1, .n m_2, .n m_3]], .p (.a 2) 1 false [((.a [m_1, m_2]), [.n 0])]]))) else Q (.i 1) [.c [.nl 4, .nm]]) else Q (.i 1) [.c [.nl 4, .nm]])))))) : PRun Tryz.prog 114 [.c [.nl 4, .nm]] [.r 0 0, .a [.i m_0, .i m_1, .i m_2, .i m_3]] Q :=
 zak mixTs Tryz.func114 (by kernel_rfl) (H := ⟨[], [], [18, 157, 158], [], [], false, 64, KN.no, false, SP.no⟩) (n := 3) (by kernel_rfl) hh
end
section
variable {Q : V → Mem → Prop}
abbrev Mk := Int × Int × Int × Int
abbrev rM (x : Mk) : List U := [.n x.1, .n x.2.1, .n x.2.2.1, .n x.2.2.2]
abbrev mV (x : Mk) : V := .a [.i x.1, .i x.2.1, .i x.2.2.1, .i x.2.2.2]
def isMk (x : Mk) : Prop := 0 ≤ x.1 ∧ x.1 ≤ 1099511627776 ∧ 1 ≤ x.2.2.1 ∧ x.2.2.1 ≤ 1099511627776 ∧ (x.2.1 = 1 ∧ (x.2.2.2 = 4 ∨ x.2.2.2 = 6) ∨ x.2.1 = 2 ∧ 3 ≤ x.2.2.2 ∧ x.2.2.2 ≤ 7)
instance (x : Mk) : Decidable (isMk x) := inferInstanceAs (Decidable (_ ∧ _))
def zfd (L : List Mk) : Int := match L.getLast? with | some x => x.1 | none => 0
def ofM (L : List Mk) (w i : Int) : Option Mk := L.find? fun x => x.2.1 == w && x.2.2.1 == i
def zhz (L : List Mk) (x : Mk) : Int := if isMk x ∧ zfd L ≤ x.1 then (if (ofM L x.2.1 x.2.2.1).isSome then 9 else if 128 ≤ L.length then 4 else 0) else 1
def zx2 (L : List Mk) (x : Mk) : List Mk := if zhz L x = 0 then L ++ [x] else L
structure LInv (L : List Mk) (m : List (MK × List U)) : Prop where
 pos : ∀ (i : Nat) (x : Mk), L[i]? = some x → ze5 m (.a [x.2.1, x.2.2.1]) = some [.n (i : Int)]
 only : ∀ w i r, ze5 m (.a [w, i]) = some r → ∃ x ∈ L, x.2.1 = w ∧ x.2.2.1 = i
def zfw (L : List Mk) : Mem → Prop := fun M => (L = [] ∧ M = [.c [.nl 4, .nm]]) ∨ (L.length ≤ 128 ∧ ∃ m, LInv L m ∧ M = [.c [.w 1, .m 2], .w 54 4 (L.map rM), .p (.a 2) 1 false m])
theorem LInv.of {L : List Mk} {m : List (MK × List U)} (h : LInv L m) (w i : Int) : (ofM L w i = none ∧ ze5 m (.a [w, i]) = none) ∨ ∃ (k : Nat) (x : Mk), ofM L w i = some x ∧ L[k]? = some x ∧ ze5 m (.a [w, i]) = some [.n (k : Int)] := by
 cases hg : ze5 m (.a [w, i]) with
 | none =>
   refine .inl ⟨z5n.2 fun x hx => ?_, rfl⟩
   intro hc
   simp only [z17, beq_iff_eq] at hc
   obtain ⟨k, hk⟩ := z3t.1 hx
   have := h.pos k x hk
   rw [hc.1, hc.2, hg] at this
   cases this
 | some r =>
   obtain ⟨x, hx, h1, h2⟩ := h.only w i r hg
   have hs : (ofM L w i).isSome := List.find?_isSome.2 ⟨x, hx, by simp [h1, h2]⟩
   obtain ⟨y, hy⟩ := z6b.1 hs
   have hy1 := z5z hy
   simp only [z17, beq_iff_eq] at hy1
   obtain ⟨k, hk⟩ := z3t.1 (z5y hy)
   have := h.pos k y hk
   rw [hy1.1, hy1.2, hg] at this
   exact .inr ⟨k, y, hy, hk, this⟩
theorem LInv.add {L : List Mk} {m : List (MK × List U)} (h : LInv L m) {x : Mk} (hx : ofM L x.2.1 x.2.2.1 = none) : LInv (L ++ [x]) (zdf m (.a [x.2.1, x.2.2.1]) [.n (L.length : Int)]) where
 pos i y hy := by
  rw [zcl]
  by_cases hi : i < L.length
  · rw [z2k hi] at hy
    rw [if_neg fun e => ?_]
    · exact h.pos i y hy
    · injection e with e
      have := z5n.1 hx y (z2y hy)
      simp only [List.cons.injEq, and_true] at e
      simp [e.1, e.2] at this
  · have hl := (z2a.1 hy).1
    simp at hl
    have : i = L.length := by omega
    subst this
    simp at hy
    subst hy
    rw [if_pos rfl]
 only w i r hr := by
  rw [zcl] at hr
  by_cases e : (MK.a [x.2.1, x.2.2.1]) = .a [w, i]
  · injection e with e
    simp only [List.cons.injEq, and_true] at e
    exact ⟨x, by simp, e.1, e.2⟩
  · rw [if_neg e] at hr
    obtain ⟨y, hy, h1⟩ := h.only w i r hr
    exact ⟨y, by simp [hy], h1⟩
end
section
variable {Q : V → Mem → Prop}
theorem addM_S {L : List Mk} {x : Mk} (K : Q (.i (zhz L x)) [.o (Ob.of (zfw (zx2 L x)))]) : PRun Tryz.prog 114 [.o (Ob.of (zfw L))] [.r 0 0, mV x] Q := by
 refine PRun.pack (args := [mV x]) rfl ?_
 have k1 : ¬ (isMk x ∧ zfd L ≤ x.1) → Q (.i 1) [.o (Ob.of (zfw L))] := fun h => by
  have e : zhz L x = 1 := if_neg h
  have e2 : zx2 L x = L := if_neg (by rw [e]; decide)
  rw [e, e2] at K; exact K
 rintro M (⟨rfl, rfl⟩ | ⟨hl, m, hm, rfl⟩)
 · have bad : ¬ (isMk x ∧ zfd [] ≤ x.1) → (zae (V.i 1) = [] ∧ ∃ (m2 : Mem) (S' : Mem → Prop), Nrm [.c [.nl 4, .nm]] m2 ∧ S' m2 ∧ Q (.i 1) [.o (Ob.of S')]) := fun h =>
    ⟨rfl, _, zfw [], .refl _, .inl ⟨rfl, rfl⟩, k1 h⟩
   have tail : isMk x → (bif decide (x.1 < 0) then (zae (V.i 1) = [] ∧ ∃ (m2 : Mem) (S' : Mem → Prop), Nrm [.c [.nl 4, .nm]] m2 ∧ S' m2 ∧ Q (.i 1) [.o (Ob.of S')]) else
    zbo [] [rM x] ∧ (zae (V.i 0) = [] ∧ ∃ (m2 : Mem) (S' : Mem → Prop), Nrm [.c [.w 1, .m 2], .w 54 4 [rM x], .p (.a 2) 1 false [((.a [x.2.1, x.2.2.1]), [.n 0])]] m2 ∧ S' m2 ∧ Q (.i 0) [.o (Ob.of S')])) := fun h => by
    have h0 : zfd [] ≤ x.1 := h.1
    refine cIf (fun h2 => absurd h.1 (by omega)) fun h2 => ⟨by unfold zbo; simp, rfl, _, zfw [x], .refl _, .inr ⟨by simp, _, LInv.add (L := []) (m := []) ⟨fun i y hy => by simp at hy, fun w i r hr => by simp [ze5] at hr⟩ rfl, rfl⟩, ?_⟩
    have e : zhz [] x = 0 := by unfold zhz; rw [if_pos ⟨h, h0⟩]; rfl
    have e2 : zx2 [] x = [x] := if_pos e
    rw [e, e2] at K; exact K
   refine S114e ?_
   unfold isMk at bad tail
   refine cIf (fun h => bad (by omega)) fun h1 => cIf (fun h => bad (by omega)) fun h2 => cIf (fun h => bad (by omega)) fun h3 => cIf (fun h => bad (by omega)) fun h4 => cEq (fun h5 => cEq (fun h6 => tail (by omega)) fun h6 => cNot (cEq (fun h7 => tail (by omega)) fun h7 => bad (by omega))) fun h5 =>
    cEq (fun h6 => cIf (fun h7 => cNot (cIf (fun h8 => tail (by omega)) fun h8 => bad (by omega))) fun h7 => bad (by omega)) fun h6 => bad (by omega)
 · have fin : ∀ {e : Int} {L' : List Mk} {m2 : Mem}, Nrm m2 m2 → e = zhz L x → L' = zx2 L x → zfw L' m2 → (zae (V.i e) = [] ∧ ∃ (m3 : Mem) (S' : Mem → Prop), Nrm m2 m3 ∧ S' m3 ∧ Q (.i e) [.o (Ob.of S')]) := fun h1 h2 h3 h4 =>
    ⟨rfl, _, _, h1, h4, by rw [h2, h3]; exact K⟩
   have same : zfw L [.c [.w 1, .m 2], .w 54 4 (L.map rM), .p (.a 2) 1 false m] := .inr ⟨hl, m, hm, rfl⟩
   have eN : zhz L x ≠ 0 → zx2 L x = L := fun h => if_neg h
   refine S114 ?_
   intro k1' hk1 k2 hk2
   have bad : ¬ (isMk x ∧ zfd L ≤ x.1) → k2 true := fun h => hk2 true ⟨rfl, _, zfw L, .refl _, same, k1 h⟩
   have good : (isMk x ∧ zfd L ≤ x.1) → k2 false := fun h => hk2 false (hk1 (by
    rcases hm.of x.2.1 x.2.2.1 with ⟨q1, q2⟩ | ⟨k, y, q1, hk, q2⟩
    · rw [q2]
      simp only [mO]
      refine cIf (fun h8 => ?_) fun h8 => ?_
      · rw [z2d] at h8
        have e : zhz L x = 4 := by unfold zhz; rw [if_pos h, q1, if_neg (by simp), if_pos (by omega)]
        exact fin (.refl _) e.symm (eN (by rw [e]; decide)).symm same
      · rw [z2d] at h8
        have e : zhz L x = 0 := by unfold zhz; rw [if_pos h, q1, if_neg (by simp), if_neg (by omega)]
        have e2 : zx2 L x = L ++ [x] := if_pos e
        refine ⟨by unfold zbo; simp; omega, rfl, _, zfw (L ++ [x]), Nrm.four (l := [.w 3, .m 2]) (by simp [za5, zam, zae]) (by simp [za5]) (by simp [za5]), .inr ⟨by simp; omega, _, hm.add q1, ?_⟩, by rw [e, e2] at K; exact K⟩
        simp [zob, zd8, zcf, f4]
    · rw [q2]
      have hkl := (z2a.1 hk).1
      simp only [mO, ug0, zcs]
      refine ⟨by omega, by rw [z2d]; omega, ?_⟩
      rw [zav (r := rM y) (by omega) (by simp [hk])]
      simp only [rM, ug0, ugs, zcs]
      have e : zhz L x = 9 := by unfold zhz; rw [if_pos h, q1]; rfl
      exact fin (.refl _) e.symm (eN (by rw [e]; decide)).symm same))
   have tail : isMk x → (bif (z15 (L.map rM) : Int) == 0 then k2 (decide (x.1 < 0)) else 0 ≤ z13 .i64 ((z15 (L.map rM) : Int) - 1) ∧ z13 .i64 ((z15 (L.map rM) : Int) - 1) < (z15 (L.map rM) : Int) ∧ (elL (L.map rM) (z13 .i64 ((z15 (L.map rM) : Int) - 1)) (fun r3 => dI .i64 (ug r3 0) (fun x6 => k2 (decide (x.1 < x6)))))) := fun h => by
    have pick : k2 (decide (x.1 < zfd L)) := by
     by_cases h2 : x.1 < zfd L
     · rw [decide_eq_true h2]; exact bad (by omega)
     · rw [decide_eq_false h2]; exact good ⟨h, by omega⟩
    rw [z2d]
    refine cEq (fun h0 => ?_) fun h0 => ?_
    · have : L = [] := z6o.1 (by omega)
      subst this; exact pick
    · obtain ⟨n, hn⟩ : ∃ n, L.length = n + 1 := ⟨L.length - 1, by omega⟩
      have ew : z13 .i64 ((L.length : Int) - 1) = (n : Nat) := by rw [hn, w64 (by omega) (by omega)]; omega
      obtain ⟨y, hy⟩ : ∃ y, L[n]? = some y := ⟨L[n]'(by omega), z2c (by omega)⟩
      have el : zfd L = y.1 := by unfold zfd; rw [List.getLast?_eq_getElem?, hn, Nat.add_sub_cancel, hy]
      rw [ew]
      refine ⟨by omega, by omega, ?_⟩
      rw [zav (r := rM y) (by omega) (by simp [hy])]
      simp only [rM, ug0, zcs]
      rw [el] at pick; exact pick
   unfold isMk at bad tail
   refine cIf (fun h => bad (by omega)) fun h1 => cIf (fun h => bad (by omega)) fun h2 => cIf (fun h => bad (by omega)) fun h3 => cIf (fun h => bad (by omega)) fun h4 => cEq (fun h5 => cEq (fun h6 => tail (by omega)) fun h6 => cNot (cEq (fun h7 => tail (by omega)) fun h7 => bad (by omega))) fun h5 =>
    cEq (fun h6 => cIf (fun h7 => cNot (cIf (fun h8 => tail (by omega)) fun h8 => bad (by omega))) fun h7 => bad (by omega)) fun h6 => bad (by omega)
end
section
set_option maxRecDepth 100000
theorem mixTk2 : Tryz.prog.follows .mixedOrders = true := by kernel_rfl
theorem S11 {c_0 : Int} {c_1 : List (List U)} {c_2 : Int} {c_3 : List (List U)} {c_4 : Int} {c_5 : Int} {c_6 : Int} {c_7 : Int} {p : List (List U)} {pn : Int} {b : List (List U)} {bt : List Int} {G : Ob} {L : Ob} {ds : List (List U)} {now : Int} {id : Int} {taker : Int} {into : Int} {Q : V → Mem → Prop} (hh : PRun Tryz.prog 12 (Mx5 c_0 c_1 c_2 c_3 c_4 c_5 c_6 c_7 p pn b bt G L ds) [.r 0 0, .i id] (post [pDx, .I] pMx (fun x1 x2 x3 x4 x5 x6 x7 x8 x9 x10 x11 x12 x13 l1 l2 x14 x15 x16 x17 x18 x19 l3 x20 l4 x21 x22 x23 x24 l5 l6 x25 l7 a1 X1 X2 => (bif x18 != 0 then Q (.i x18) (Mx6 x19 l3 x20 l4 x21 x22 x23 x24 l6 x25 l7 a1 X1 X2 l5) else PRun Tryz.prog 47 [] [aDx x1 x2 x3 x4 x5 x6 x7 x8 x9 x10 x11 x12 x13 l1 l2 x14 x15 x16 x17, .i now, .i taker, .i into] (post [pDx, .I] [] (fun x26 x27 x28 x29 x30 x31 x32 x33 x34 x35 x36 x37 x38 l8 l9 x39 x40 x41 x42 x43 => (bif x43 != 0 then Q (.i x43) (Mx6 x19 l3 x20 l4 x21 x22 x23 x24 l6 x25 l7 a1 X1 X2 l5) else ∀ k1 : Int → Prop, (∀ x44 : Int, dup6 (PRun Tryz.prog 10 [.c [.l 5 l6, .i x25]] [.r 0 0, .i taker] (post [.I, .I] [.c [.l 5, .i .i64]] (fun x45 x46 l10 x47 => (bif x46 != 0 then Q (.i 3) (Mx6 x19 l3 x20 l4 x21 x22 x23 x24 l10 x47 l7 a1 X1 X2 l5) else (bif decide (x45 < x44) then Q (.i 6) (Mx6 x19 l3 x20 l4 x21 x22 x23 x24 l10 x47 l7 a1 X1 X2 l5) else PRun Tryz.prog 39 (Mx5 x19 l3 x20 l4 x21 x22 x23 x24 l10 x47 l7 a1 X1 X2 l5) [.r 0 0, .a [.i taker, .i into, .i x7, .i 1], .l 2 l2] (post [.B] pMx (fun b1 x48 l11 x49 l12 x50 x51 x52 x53 l13 l14 x54 l15 a2 X3 X4 => (bif !b1 then Q (.i 7) (Mx6 x48 l11 x49 l12 x50 x51 x52 x53 l14 x54 l15 a2 X3 X4 l13) else PRun Tryz.prog 41 [.c [.l 5 l14, .i x54]] [.r 0 0, .i taker, .i id, .i x44] (post [.I] [.c [.l 5, .i .i64]] (fun x55 l16 x56 => (bif x2 == 1 then 0 ≤ z13 .i64 (id - 1) ∧ z13 .i64 (id - 1) < (z15 l13 : Int) ∧ (PRun Tryz.prog 79 [.o X3] [.r 0 0] (post [.L 3] [.A] (fun l17 X5 => ∃ (I1 : Int → Ob → Prop) (f1 : Int → Ob → Nat), I1 0 X5 ∧ (∀ x57 : Int, ∀ X6 : Ob, I1 x57 X6 → (bif decide (x57 < (z15 l17 : Int)) then elL l17 x57 (fun r1 => dI .i64 (ug r1 0) (fun x58 => dI .i64 (ug r1 1) (fun x59 => dI .i64 (ug r1 2) (fun x60 => (bif x60 == z13 .i64 (z13 .i64 (2 * id) + 1) then PRun Tryz.prog 50 [.o X6] [.r 0 0, .i x59, .i x40] (post [.I, .I] [.A] (fun x61 x62 X7 => (Q (.i 0) (Mx6 x48 l11 x49 l12 x50 x51 x52 x53 l16 x56 l15 a2 X7 X4 (z2q l13 (z16 (z13 .i64 (id - 1))) (rDx x26 x27 x28 x29 x30 x31 x32 x33 x34 x35 x36 x37 x38 l8 l9 x39 x40 x41 x42))) : Prop))) else I1 (z13 .i64 (x57 + 1)) X6 ∧ f1 (z13 .i64 (x57 + 1)) X6 < f1 x57 X6))))) else Q (.i 0) (Mx6 x48 l11 x49 l12 x50 x51 x52 x53 l16 x56 l15 a2 X6 X4 (z2q l13 (z16 (z13 .i64 (id - 1))) (rDx x26 x27 x28 x29 x30 x31 x32 x33 x34 x35 x36 x37 x38 l8 l9 x39 x40 x41 x42)))))))) else PRun Tryz.prog 51 [] [.a [.i x51, .i x52, .i x53], .i x9] (post [.I, .I] [] (fun x63 x64 => (PRun Tryz.prog 52 [.c [.l 5 l15, .n .i64 33 a2]] [.r 0 0, .a [.i taker, .i into, .i x7, .i 1], .l 2 l2] (post [.I] [.c [.l 5, .n 33]] (fun x65 l18 a3 => (PRun Tryz.prog 53 [.c [.l 5 l18, .n .i64 33 a3]] [.r 0 0, .a [.i x3, .i x4, .i x7, .i 1], .l 2 l2] (post [.I] [.c [.l 5, .n 33]] (fun x66 l19 a4 => (PRun Tryz.prog 54 [.c [.l 5 l19, .n .i64 33 a4]] [.r 0 0, .i 2, .i id, .i x7, .a [.i taker, .i into, .i x7, .i 1]] (post [.I] [.c [.l 5, .n 33]] (fun x67 l20 a5 => (PRun Tryz.prog 55 (Mx5 x48 l11 x49 l12 x50 x51 x52 x53 l16 x56 l20 a5 X3 X4 l13) [.r 0 0, .a [.i x1, .i x2, .i x3, .i x4, .i x5, .i x6, .i x7, .i x8, .i x9, .i x10, .i x11, .i x12, .i x13, .l 2 l1, .l 2 l2, .i x14, .i x15, .i x16, .i x17, .i 3, .i now, .i x63], aDx x26 x27 x28 x29 x30 x31 x32 x33 x34 x35 x36 x37 x38 l8 l9 x39 x40 x41 x42] (post [] pMx (fun x68 l21 x69 l22 x70 x71 x72 x73 l23 l24 x74 l25 a6 X8 X9 => (Q (.i 0) (Mx6 x68 l21 x69 l22 x70 x71 x72 x73 l24 x74 l25 a6 X8 X9 l23) : Prop))) : Prop))) : Prop))) : Prop))) : Prop))) : Prop))) : Prop)))) : Prop)))) → k1 x44) → (bif x2 == 2 then k1 x9 else k1 x10) : Prop))) : Prop)))) : PRun Tryz.prog 11 (Mx5 c_0 c_1 c_2 c_3 c_4 c_5 c_6 c_7 p pn b bt G L ds) [.r 0 0, .i now, .i id, .i taker, .i into] Q :=
 zak mixTk2 Tryz.func11 (by kernel_rfl) (H := ⟨[((48, 1, 13), ⟨[(14, .I)], [(3, .A)]⟩)], [((11, 10, 10), ⟨[(14, .I)], []⟩)], [37, 44, 48, 49], [], [], false, 64, KN.no, false, SP.no⟩) (n := 4) (by kernel_rfl) hh
end
section
set_option maxRecDepth 100000
theorem z0y : Tryz.prog.follows .mixedOrders = true := by kernel_rfl
theorem S14 {c_0 : Int} {c_1 : List (List U)} {c_2 : Int} {c_3 : List (List U)} {c_4 : Int} {c_5 : Int} {c_6 : Int} {c_7 : Int} {p : List (List U)} {pn : Int} {b : List (List U)} {bt : List Int} {G : Ob} {L : Ob} {ds : List (List U)} {now : Int} {a_kind : Int} {a_id : Int} {a_n : Int} {a_into : Int} {d_id : Int} {d_kind : Int} {d_iss : Int} {d_div : Int} {d_bye : Int} {d_to : Int} {d_place : Int} {d_dest : Int} {d_pay : Int} {d_pledge : Int} {d_lasts : Int} {d_days : Int} {d_fee : Int} {d_gives : List (List U)} {d_wants : List (List U)} {d_st : Int} {d_due : Int} {d_taker : Int} {d_into : Int} {Q : V → Mem → Prop} (hh : bif a_kind == 1 then PRun Tryz.prog 9 (Mx5 c_0 c_1 c_2 c_3 c_4 c_5 c_6 c_7 p pn b bt G L ds) [.r 0 0, .i now, aDx d_id d_kind d_iss d_div d_bye d_to d_place d_dest d_pay d_pledge d_lasts d_days d_fee d_gives d_wants d_st d_due d_taker d_into] (post [.I, .I] pMx (fun x1 x2 x3 l1 x4 l2 x5 x6 x7 x8 l3 l4 x9 l5 a1 X1 X2 => (Q (.t [.i now, .i x1, .i x2]) (Mx6 x3 l1 x4 l2 x5 x6 x7 x8 l4 x9 l5 a1 X1 X2 l3) : Prop))) else (bif a_kind == 2 then PRun Tryz.prog 11 (Mx5 c_0 c_1 c_2 c_3 c_4 c_5 c_6 c_7 p pn b bt G L ds) [.r 0 0, .i now, .i a_id, .i a_n, .i a_into] (post [.I] pMx (fun x10 x11 l6 x12 l7 x13 x14 x15 x16 l8 l9 x17 l10 a2 X3 X4 => (Q (.t [.i now, .i 0, .i x10]) (Mx6 x11 l6 x12 l7 x13 x14 x15 x16 l9 x17 l10 a2 X3 X4 l8) : Prop))) else (bif a_kind == 3 then PRun Tryz.prog 13 (Mx5 c_0 c_1 c_2 c_3 c_4 c_5 c_6 c_7 p pn b bt G L ds) [.r 0 0, .i now, .i a_id, .i a_n] (post [.I] pMx (fun x18 x19 l11 x20 l12 x21 x22 x23 x24 l13 l14 x25 l15 a3 X5 X6 => (Q (.t [.i now, .i 0, .i x18]) (Mx6 x19 l11 x20 l12 x21 x22 x23 x24 l14 x25 l15 a3 X5 X6 l13) : Prop))) else PRun Tryz.prog 60 [] [.i a_n] (post [.I] [] (fun x26 => ∃ (I1 : Int → Int → List (List U) → Int → List (List U) → Int → Int → Int → Int → List (List U) → List (List U) → Int → List (List U) → List Int → Ob → Ob → Prop) (f1 : Int → Int → List (List U) → Int → List (List U) → Int → Int → Int → Int → List (List U) → List (List U) → Int → List (List U) → List Int → Ob → Ob → Nat), I1 0 c_0 c_1 c_2 c_3 c_4 c_5 c_6 c_7 ds p pn b bt G L ∧ (∀ x27 : Int, ∀ x28 : Int, ∀ l16 : List (List U), ∀ x29 : Int, ∀ l17 : List (List U), ∀ x30 : Int, ∀ x31 : Int, ∀ x32 : Int, ∀ x33 : Int, ∀ l18 : List (List U), ∀ l19 : List (List U), ∀ x34 : Int, ∀ l20 : List (List U), ∀ a4 : List Int, ∀ X7 : Ob, ∀ X8 : Ob, I1 x27 x28 l16 x29 l17 x30 x31 x32 x33 l18 l19 x34 l20 a4 X7 X8 → (bif decide (x27 < 256) then PRun Tryz.prog 61 [.o X7] [.r 0 0, .i (z13 .i64 (now + x26))] (post [.agg [.i .i64, .i .i64, .i .i64], .B] [.A] (fun x35 x36 x37 b1 X9 => (bif !b1 then Q (.t [.i (z13 .i64 (now + x26)), .i 0, .i 0]) (Mx6 x28 l16 x29 l17 x30 x31 x32 x33 l19 x34 l20 a4 X9 X8 l18) else (2 : Int) ≠ 0 ∧ (PRun Tryz.prog 25 (Mx5 x28 l16 x29 l17 x30 x31 x32 x33 l19 x34 l20 a4 X9 X8 l18) [.r 0 0, .i x35, .i (z13 .i64 (Int.tdiv x37 2))] (post [.I] pMx (fun x38 x39 l21 x40 l22 x41 x42 x43 x44 l23 l24 x45 l25 a5 X10 X11 => (I1 (z13 .i64 (x27 + 1)) x39 l21 x40 l22 x41 x42 x43 x44 l23 l24 x45 l25 a5 X10 X11 ∧ f1 (z13 .i64 (x27 + 1)) x39 l21 x40 l22 x41 x42 x43 x44 l23 l24 x45 l25 a5 X10 X11 < f1 x27 x28 l16 x29 l17 x30 x31 x32 x33 l18 l19 x34 l20 a4 X7 X8 : Prop)))) : Prop))) else Q (.t [.i (z13 .i64 (now + x26)), .i 0, .i 0]) (Mx6 x28 l16 x29 l17 x30 x31 x32 x33 l19 x34 l20 a4 X7 X8 l18)))))))) : PRun Tryz.prog 14 (Mx5 c_0 c_1 c_2 c_3 c_4 c_5 c_6 c_7 p pn b bt G L ds) [.a [.r 0 0, .r 1 0, .r 2 0, .r 3 0, .r 4 0], .i now, .a [.i a_kind, .i a_id, .i a_n, .i a_into, .i d_id, .i d_kind, .i d_iss, .i d_div, .i d_bye, .i d_to, .i d_place, .i d_dest, .i d_pay, .i d_pledge, .i d_lasts, .i d_days, .i d_fee, .l 2 d_gives, .l 2 d_wants, .i d_st, .i d_due, .i d_taker, .i d_into]] Q :=
 zak z0y Tryz.func14 (by kernel_rfl) (H := ⟨[((14, 11, 8), ⟨[(12, .I)], [(0, .c [.i .i64, .l 7, .i .i64, .l 4, .i .i64, .i .i64, .i .i64, .i .i64, .r 1 0, .r 2 0, .r 3 0, .r 4 0, .ow 33 19]), (1, .c [.l 5, .i .i64]), (2, .c [.l 5, .n 33]), (3, .A), (4, .A)]⟩)], [], [], [], [], false, 64, KN.no, false, SP.no⟩) (n := 2) (by kernel_rfl) hh
theorem S44 {id : Int} {Q : V → Mem → Prop} (hh : Q (.i (z13 .i64 (z13 .i64 (2 * id) + 1))) []) : PRun Tryz.prog 44 [] [.i id] Q :=
 zak z0y Tryz.func44 (by kernel_rfl) (H := ⟨[], [], [], [], [], false, 64, KN.no, false, SP.no⟩) (n := 2) (by kernel_rfl) hh
theorem S60 {n : Int} {Q : V → Mem → Prop} (hh : Q (.i (z13 .i64 (BitVec.toNat (BitVec.ofInt 64 n &&& (BitVec.ofInt 64 255)) : Int))) []) : PRun Tryz.prog 60 [] [.i n] Q :=
 zak z0y Tryz.func60 (by kernel_rfl) (H := ⟨[], [], [], [], [], false, 64, KN.no, false, SP.no⟩) (n := 2) (by kernel_rfl) hh
end
section
set_option maxRecDepth 100000
theorem zhe : Tryz.prog.follows .mixedOrders = true := by kernel_rfl
theorem S29 {l : List (List U)} {Q : V → Mem → Prop} (hh : ∃ (I1 : Int → Prop) (f1 : Int → Nat), I1 0 ∧ (∀ x1 : Int, I1 x1 → (bif decide (x1 < (z15 l : Int)) then elL l x1 (fun r1 => dI .i64 (ug r1 6) (fun x2 => (bif decide (x2 ≥ 1048576) then Q (.u (.b false)) [] else elL l x1 (fun r2 => dI .i64 (ug r2 0) (fun x3 => (bif x3 == 2 then elL l x1 (fun r3 => dI .i64 (ug r3 2) (fun x4 => (bif decide (x4 ≥ 1048576) then Q (.u (.b false)) [] else I1 (z13 .i64 (x1 + 1)) ∧ f1 (z13 .i64 (x1 + 1)) < f1 x1))) else I1 (z13 .i64 (x1 + 1)) ∧ f1 (z13 .i64 (x1 + 1)) < f1 x1)))))) else Q (.u (.b true)) []))) : PRun Tryz.prog 29 [] [.l 23 l] Q :=
 zak zhe Tryz.func29 (by kernel_rfl) (H := ⟨[((29, 2, 0), ⟨[(3, .I)], []⟩)], [], [], [], [], false, 64, KN.no, false, SP.no⟩) (n := 2) (by kernel_rfl) hh
theorem S16 {l : List (List U)} {most : Int} {Q : V → Mem → Prop} (hh : ∃ (I1 : Int → Prop) (f1 : Int → Nat), I1 0 ∧ (∀ x1 : Int, I1 x1 → (bif decide (x1 < (z15 l : Int)) then (bif decide (x1 < most) then elL l x1 (fun r1 => dL 2 (ug r1 17) (fun l1 => (bif decide ((z15 l1 : Int) > 12) then Q (.u (.b false)) [] else elL l x1 (fun r2 => dL 2 (ug r2 18) (fun l2 => (bif decide ((z15 l2 : Int) > 12) then Q (.u (.b false)) [] else I1 (z13 .i64 (x1 + 1)) ∧ f1 (z13 .i64 (x1 + 1)) < f1 x1)))))) else Q (.u (.b (decide ((z15 l : Int) ≤ most)))) []) else Q (.u (.b (decide ((z15 l : Int) ≤ most)))) []))) : PRun Tryz.prog 16 [] [.l 23 l, .i most] Q :=
 zak zhe Tryz.func16 (by kernel_rfl) (H := ⟨[((16, 2, 0), ⟨[(5, .I)], []⟩)], [], [], [], [], false, 64, KN.no, false, SP.no⟩) (n := 2) (by kernel_rfl) hh
theorem S19 {d_0 : Int} {d_1 : Int} {d_2 : Int} {d_3 : Int} {d_4 : Int} {d_5 : Int} {d_6 : Int} {d_7 : Int} {d_8 : Int} {d_9 : Int} {d_10 : Int} {d_11 : Int} {d_12 : Int} {d_13 : List (List U)} {d_14 : List (List U)} {d_15 : Int} {d_16 : Int} {d_17 : Int} {d_18 : Int} {Q : V → Mem → Prop} (hh : bif d_15 != 1 then Q (.u (.b (d_15 != 2))) [] else Q (.u (.b false)) []) : PRun Tryz.prog 19 [] [aDx d_0 d_1 d_2 d_3 d_4 d_5 d_6 d_7 d_8 d_9 d_10 d_11 d_12 d_13 d_14 d_15 d_16 d_17 d_18] Q :=
 zak zhe Tryz.func19 (by kernel_rfl) (H := ⟨[], [], [], [], [], false, 64, KN.no, false, SP.no⟩) (n := 2) (by kernel_rfl) hh
theorem S135 {what : Int} {id : Int} {Q : V → Mem → Prop} (hh : bif decide (id < 1) then Q (.t [.i 0, .i 1]) [] else (bif decide (id ≥ 1048576) then Q (.t [.i 0, .i 1]) [] else (bif what == 1 then Q (.t [.i (z13 .i64 (1048576 + id)), .i 0]) [] else (bif what == 2 then Q (.t [.i (z13 .i64 (2097152 + id)), .i 0]) [] else Q (.t [.i 0, .i 1]) [])))) : PRun Tryz.prog 135 [] [.i what, .i id] Q :=
 zak zhe Tryz.func135 (by kernel_rfl) (H := ⟨[], [], [], [], [], false, 64, KN.no, false, SP.no⟩) (n := 2) (by kernel_rfl) hh
theorem S138 {owner : Int} {div : Int} {place : Int} {Q : V → Mem → Prop} (hh : Q (.a [.i owner, .i div, .i place, .i 1]) []) : PRun Tryz.prog 138 [] [.i owner, .i div, .i place] Q :=
 zak zhe Tryz.func138 (by kernel_rfl) (H := ⟨[], [], [], [], [], false, 64, KN.no, false, SP.no⟩) (n := 2) (by kernel_rfl) hh
theorem S136 {l : List (List U)} {owner : Int} {Q : V → Mem → Prop} (hh : PRun Tryz.prog 178 [] [.l 2 l, .i owner] (post [.I] [] (fun x1 => (bif decide (x1 < 0) then Q (.t [.i 0, .i 3]) [] else elL l x1 (fun r1 => dI .i64 (ug r1 1) (fun x2 => Q (.t [.i x2, .i 0]) [])) : Prop)))) : PRun Tryz.prog 136 [] [.l 2 l, .i owner] Q :=
 zak zhe Tryz.func136 (by kernel_rfl) (H := ⟨[], [], [], [], [], false, 64, KN.no, false, SP.no⟩) (n := 2) (by kernel_rfl) hh
theorem S80 {p : List (List U)} {id : Int} {Q : V → Mem → Prop} (hh : PRun Tryz.prog 135 [] [.i 2, .i id] (post [.I, .I] [] (fun x1 x2 => (bif x2 != 0 then Q (.i 0) [] else PRun Tryz.prog 136 [] [.l 2 p, .i x1] (post [.I, .I] [] (fun x3 x4 => (Q (.i x3) [] : Prop))) : Prop)))) : PRun Tryz.prog 80 [] [.l 2 p, .i id] Q :=
 zak zhe Tryz.func80 (by kernel_rfl) (H := ⟨[], [], [], [], [], false, 64, KN.no, false, SP.no⟩) (n := 2) (by kernel_rfl) hh
theorem S137 {l : List (List U)} {x_0 : Int} {x_1 : Int} {x_2 : Int} {x_3 : Int} {Q : V → Mem → Prop} (hh : ∃ (I1 : List (List U) → Int → Prop) (f1 : List (List U) → Int → Nat), I1 [] 1 ∧ (∀ l1 : List (List U), ∀ x1 : Int, I1 l1 x1 → (bif decide (x1 ≤ 32) then PRun Tryz.prog 180 [] [.a [.i x_0, .i x_1, .i x_2, .i x_3], .i x1] (post [.agg [.i .i64, .i .i64, .i .i64, .i .i64]] [] (fun x2 x3 x4 x5 => (PRun Tryz.prog 179 [] [.l 5 l, .a [.i x2, .i x3, .i x4, .i x5]] (post [.I] [] (fun x6 => (bif decide (x6 > 0) then zbo l1 [[.n x1, .n x6]] ∧ (I1 (l1 ++ [[.n x1, .n x6]]) (z13 .i64 (x1 + 1)) ∧ f1 (l1 ++ [[.n x1, .n x6]]) (z13 .i64 (x1 + 1)) < f1 l1 x1) else I1 l1 (z13 .i64 (x1 + 1)) ∧ f1 l1 (z13 .i64 (x1 + 1)) < f1 l1 x1 : Prop))) : Prop))) else Q (.l 2 l1) []))) : PRun Tryz.prog 137 [] [.l 5 l, .a [.i x_0, .i x_1, .i x_2, .i x_3]] Q :=
 zak zhe Tryz.func137 (by kernel_rfl) (H := ⟨[((137, 3, 1), ⟨[(5, .one (.ow 106 2)), (6, .I)], []⟩)], [], [], [], [], false, 64, KN.no, false, SP.no⟩) (n := 2) (by kernel_rfl) hh
theorem S81 {l : List (List U)} {what : Int} {id : Int} {place : Int} {Q : V → Mem → Prop} (hh : PRun Tryz.prog 135 [] [.i what, .i id] (post [.I, .I] [] (fun x1 x2 => (bif x2 != 0 then Q (.l 2 []) [] else PRun Tryz.prog 138 [] [.i x1, .i 0, .i place] (post [.agg [.i .i64, .i .i64, .i .i64, .i .i64]] [] (fun x3 x4 x5 x6 => (PRun Tryz.prog 137 [] [.l 5 l, .a [.i x3, .i x4, .i x5, .i x6]] (post [.L 2] [] (fun l1 => (Q (.l 2 l1) [] : Prop))) : Prop))) : Prop)))) : PRun Tryz.prog 81 [] [.l 5 l, .i what, .i id, .i place] Q :=
 zak zhe Tryz.func81 (by kernel_rfl) (H := ⟨[], [], [], [], [], false, 64, KN.no, false, SP.no⟩) (n := 2) (by kernel_rfl) hh
end
section
set_option maxRecDepth 100000
theorem z0x : Tryz.prog.follows .mixedOrders = true := by kernel_rfl
theorem S178 {l : List (List U)} {owner : Int} {Q : V → Mem → Prop} (hh : ∃ (I1 : Int → Prop) (f1 : Int → Nat), I1 0 ∧ (∀ x1 : Int, I1 x1 → (bif decide (x1 < (z15 l : Int)) then elL l x1 (fun r1 => dI .i64 (ug r1 0) (fun x2 => (bif x2 == owner then Q (.i x1) [] else I1 (z13 .i64 (x1 + 1)) ∧ f1 (z13 .i64 (x1 + 1)) < f1 x1))) else Q (.i (-1)) []))) : PRun Tryz.prog 178 [] [.l 2 l, .i owner] Q :=
 zak z0x Tryz.func178 (by kernel_rfl) (H := ⟨[((178, 2, 0), ⟨[(5, .I)], []⟩)], [], [], [], [], false, 64, KN.no, false, SP.no⟩) (n := 2) (by kernel_rfl) hh
theorem S179 {l : List (List U)} {x_0 : Int} {x_1 : Int} {x_2 : Int} {x_3 : Int} {Q : V → Mem → Prop} (hh : ∃ (I1 : Int → Prop) (f1 : Int → Nat), I1 0 ∧ (∀ x1 : Int, I1 x1 → (bif decide (x1 < (z15 l : Int)) then elL l x1 (fun r1 => dI .i64 (ug r1 0) (fun x2 => dI .i64 (ug r1 1) (fun x3 => dI .i64 (ug r1 2) (fun x4 => dI .i64 (ug r1 3) (fun x5 => (bif x2 == x_0 && (x3 == x_1 && (x4 == x_2 && (x5 == x_3 && true))) then elL l x1 (fun r2 => dI .i64 (ug r2 4) (fun x6 => Q (.i x6) [])) else I1 (z13 .i64 (x1 + 1)) ∧ f1 (z13 .i64 (x1 + 1)) < f1 x1)))))) else Q (.i 0) []))) : PRun Tryz.prog 179 [] [.l 5 l, .a [.i x_0, .i x_1, .i x_2, .i x_3]] Q :=
 zak z0x Tryz.func179 (by kernel_rfl) (H := ⟨[((179, 2, 1), ⟨[(5, .I)], []⟩)], [], [], [], [], false, 64, KN.no, false, SP.no⟩) (n := 2) (by kernel_rfl) hh
theorem S180 {x_0 : Int} {x_1 : Int} {x_2 : Int} {x_3 : Int} {kind : Int} {Q : V → Mem → Prop} (hh : Q (.a [.i x_0, .i x_1, .i x_2, .i kind]) []) : PRun Tryz.prog 180 [] [.a [.i x_0, .i x_1, .i x_2, .i x_3], .i kind] Q :=
 zak z0x Tryz.func180 (by kernel_rfl) (H := ⟨[], [], [], [], [], false, 64, KN.no, false, SP.no⟩) (n := 2) (by kernel_rfl) hh
end
section
set_option maxRecDepth 100000
theorem mixTl3 : Tryz.prog.follows .mixedOrders = true := by kernel_rfl
theorem S32 {c_0 : Int} {c_1 : List (List U)} {c_2 : Int} {c_3 : List (List U)} {c_4 : Int} {c_5 : Int} {c_6 : Int} {c_7 : Int} {p : List (List U)} {pn : Int} {b : List (List U)} {bt : List Int} {G : Ob} {L : Ob} {ds : List (List U)} {Q : V → Mem → Prop} (hh : PRun Tryz.prog 17 (Mx5 c_0 c_1 c_2 c_3 c_4 c_5 c_6 c_7 p pn b bt G L ds) [.r 0 0] (post [.L 19] pMx (fun l1 x1 l2 x2 l3 x3 x4 x5 x6 l4 l5 x7 l6 a1 X1 X2 => (PRun Tryz.prog 77 [.c [.l 5 l6, .n .i64 33 a1]] [.r 0 0] (post [.L 5] [.c [.l 5, .n 33]] (fun l7 l8 a2 => (PRun Tryz.prog 78 [.c [.l 5 l5, .i x7]] [.r 0 0] (post [.L 2] [.c [.l 5, .i .i64]] (fun l9 l10 x8 => (PRun Tryz.prog 79 [.o X1] [.r 0 0] (post [.L 3] [.A] (fun l11 X3 => ∃ (I1 : Int → Int → Prop) (f1 : Int → Int → Nat), I1 0 0 ∧ (∀ x9 : Int, ∀ x10 : Int, I1 x9 x10 → (bif decide (x10 < (z15 l1 : Int)) then elL l1 x10 (fun r1 => dDx r1 (fun x11 x12 x13 x14 x15 x16 x17 x18 x19 x20 x21 x22 x23 l12 l13 x24 x25 x26 x27 => ∀ k1 : Int → Int → List (List U) → Prop, (∀ x28 : Int, ∀ x29 : Int, ∀ l14 : List (List U), (PRun Tryz.prog 80 [] [.l 2 l9, .i x11] (post [.I] [] (fun x30 => (bif x30 != x29 then Q (.u (.b false)) (Mx6 x1 l2 x2 l3 x3 x4 x5 x6 l10 x8 l8 a2 X3 X2 l4) else PRun Tryz.prog 81 [] [.l 5 l7, .i 2, .i x11, .i x17] (post [.L 2] [] (fun l15 => (PRun Tryz.prog 64 [] [.l 2 l15, .l 2 l14] (post [.B] [] (fun b1 => (bif !b1 then Q (.u (.b false)) (Mx6 x1 l2 x2 l3 x3 x4 x5 x6 l10 x8 l8 a2 X3 X2 l4) else I1 x28 (z13 .i64 (x10 + 1)) ∧ f1 x28 (z13 .i64 (x10 + 1)) < f1 x9 x10 : Prop))) : Prop))) : Prop)))) → k1 x28 x29 l14) → PRun Tryz.prog 19 [] [aDx x11 x12 x13 x14 x15 x16 x17 x18 x19 x20 x21 x22 x23 l12 l13 x24 x25 x26 x27] (post [.B] [] (fun b2 => (bif !b2 then ∀ k2 : Int → Prop, (∀ x31 : Int, (∀ k3 : Int → Prop, (∀ x32 : Int, (∃ (I2 : Int → Int → Prop) (f2 : Int → Int → Nat), I2 0 0 ∧ (∀ x33 : Int, ∀ x34 : Int, I2 x33 x34 → (bif decide (x34 < (z15 l11 : Int)) then elL l11 x34 (fun r2 => dI .i64 (ug r2 2) (fun x35 => PRun Tryz.prog 44 [] [.i x11] (post [.I] [] (fun x36 => (bif x35 == x36 then elL l11 x34 (fun r3 => dI .i64 (ug r3 0) (fun x37 => (bif x37 == x25 then I2 (z13 .i64 (x33 + 1)) (z13 .i64 (x34 + 1)) ∧ f2 (z13 .i64 (x33 + 1)) (z13 .i64 (x34 + 1)) < f2 x33 x34 else I2 x33 (z13 .i64 (x34 + 1)) ∧ f2 x33 (z13 .i64 (x34 + 1)) < f2 x33 x34))) else I2 x33 (z13 .i64 (x34 + 1)) ∧ f2 x33 (z13 .i64 (x34 + 1)) < f2 x33 x34 : Prop))))) else (bif x33 != 1 then Q (.u (.b false)) (Mx6 x1 l2 x2 l3 x3 x4 x5 x6 l10 x8 l8 a2 X3 X2 l4) else k1 (z13 .i64 (x9 + 1)) x32 l12)))) → k3 x32) → (bif x24 == 2 then k3 (z13 .i64 (x19 + x20)) else k3 x31)) → k2 x31) → (bif x12 == 1 then k2 x19 else k2 0) else k1 x9 0 [] : Prop))))) else Q (.u (.b (x9 == (z15 l11 : Int)))) (Mx6 x1 l2 x2 l3 x3 x4 x5 x6 l10 x8 l8 a2 X3 X2 l4))))) : Prop))) : Prop))) : Prop)))) : PRun Tryz.prog 32 (Mx5 c_0 c_1 c_2 c_3 c_4 c_5 c_6 c_7 p pn b bt G L ds) [.a [.r 0 0, .r 1 0, .r 2 0, .r 3 0, .r 4 0]] Q :=
 zak mixTl3 Tryz.func32 (by kernel_rfl) (H := ⟨[((32, 4, 8), ⟨[(7, .I), (8, .I)], []⟩), ((32, 18, 9), ⟨[(12, .I), (13, .I)], []⟩)], [((32, 14, 9), ⟨[(10, .I)], []⟩), ((32, 16, 9), ⟨[(10, .I)], []⟩), ((32, 24, 9), ⟨[(7, .I), (10, .I), (11, .L 2)], []⟩)], [], [], [], false, 64, KN.no, false, SP.no⟩) (n := 2) (by kernel_rfl) hh
end
section
variable {P : Program} {D D' : Fz} {ρ ρ' : List Loc} {m m' : Mem} {chs C : List zab} {h h' : zac} {ro hr : List Nat}
theorem zbq {ops : Array Oper} {Q : Exit → Act → World → Prop} {o : Oper} {rest : List Oper} {a : Act} {w : World} {r : Option Nat} {n : Nat} (hg : o.guard = none) (hh : o.wpIn (FW r) n P a w (wpListIn (FW r) n P ops Q rest) Q) : wpListIn (FW r) n P ops Q (o :: rest) a w := by
 unfold wpListIn
 rw [if_pos (by simp [Region.wanted, hg])]
 exact hh
theorem zay {a : Act} {l : List Value} {d : Option Tmp} {v : Value} (h : a.tmps.toList = l) : (a.put d v).tmps.toList = ztv l d v := by rw [zbb, h]
theorem zmz {ops : Array Oper} {Q : Exit → Act → World → Prop} {a : Act} {w : World} {r : Option Nat} {n : Nat} (hh : Q .normal a w) : wpListIn (FW r) n P ops Q [] a w := hh
theorem SAt.cget (M : SAt D ρ m chs C h) {b : Nat} {o : Obj} (hm : [(b, o)] ∈ C) : h[b]? = some o :=
 M.st.own (b, o) (List.mem_flatten.2 ⟨_, z2f.2 (.inr hm), z2x _⟩)
theorem zsu {o : Oper} {a : Act} {w : World} {next : Act → World → Prop} {Q : Exit → Act → World → Prop} {r : Option Nat} {n : Nat} {v : Value} (hd : zbf o = false) (h : (execOp (ev a.tmps.toList) o).run P w = .ok (.value v) w) (hn : next (a.put o.dst v) w) : o.wpIn (FW r) n P a w next Q :=
 zvi hd (by unfold Oper.wp; rw [zau, h]; exact hn)
theorem w_eff {o : Oper} {a : Act} {w : World} {next : Act → World → Prop} {Q : Exit → Act → World → Prop} {r : Option Nat} {n : Nat} {K : Value → zac → Prop} (hd : zbf o = false) (h : zrx P ⟨[], [], []⟩ a.tmps.toList o w.heap K) (hn : ∀ v w', K v w'.heap → Same w w' → next (a.put o.dst v) w') : o.wpIn (FW r) n P a w next Q :=
 zvi hd (zf0 (SWp.r (zbz h)) (zau a) rfl hn)
theorem zym {T : TypeId} {z : Value} (hl : zcv P T = some (.one z)) {t : List Value} {x : Operand} {b : Nat} {v : Value} {E : TypeId} {w : World} {dst : Option Tmp} {ty : TypeId} {pos : String} {after : Array Edge} {guard : Option (Nat × Bool)} (hx : ev t x = .pointer (some ⟨b, 0, none⟩)) (hb : w.heap[b]? = some (.cells #[v] E (0, 0))) :
 (execOp (ev t) ⟨dst, .load T x, ty, pos, after, guard⟩).run P w = .ok (.value v) w := by
 have := zge (P := P) hl (b := b) (o := 0) (v := v) (w := w) (by rw [zaz hb]; rfl)
 simp [execOp, Instr.loadAt, Instr.sureAddr, hx, this]
theorem zyl {T : TypeId} {z : Value} (hl : zcv P T = some (.one z)) {a : Act} {w : World} {x y : Operand} {b : Nat} {u v : Value} {E : TypeId} {dst : Option Tmp} {ty : TypeId} {pos : String} {after : Array Edge} {guard : Option (Nat × Bool)} {C1 C2 : List zab} (hx : ev a.tmps.toList x = .pointer (some ⟨b, 0, none⟩)) (hy : ev a.tmps.toList y = v) (hs : single v = true)
 (M : SAt D ρ m chs (C1 ++ [(b, .cells #[u] E (0, 0))] :: C2) w.heap) {next : Act → World → Prop} {Q : Exit → Act → World → Prop} {r : Option Nat} {n : Nat} (hn : ∀ w', SAt D ρ m chs (C1 ++ [(b, .cells #[v] E (0, 0))] :: C2) w'.heap → Same w w' → next (a.put dst undef) w') :
 (⟨dst, .store T x y, ty, pos, after, guard⟩ : Oper).wpIn (FW r) n P a w next Q := by
 refine w_eff (K := fun v' h' => v' = undef ∧ SAt D ρ m chs (C1 ++ [(b, .cells #[v] E (0, 0))] :: C2) h') rfl ?_ ?_
 · simp only [zrx, hx, hy, zgu, hl]
   have hq : ∀ v : Value, (([(b, Obj.cells #[v] E (0, 0))] :: (chs ++ (C1 ++ C2))).flatten).Perm (chs ++ (C1 ++ [(b, .cells #[v] E (0, 0))] :: C2)).flatten := fun v => by
    simp only [z21, z2n]
    exact (z3g _ _ _).trans ((z3g _ _ _).append_left _)
   have S := M.st.perm (hq u).symm
   have S' : St D ([(b, .cells ⟨[u]⟩ E (0, 0))] :: (chs ++ (C1 ++ C2))) w.heap := S
   exact z0k (S'.sk0 (v := v) (o := 0) rfl hs fun h' S2 => ⟨trivial, M.mono (.refl D) (St.perm S2 (hq v))⟩)
 · rintro v' w' ⟨rfl, M'⟩ s
   exact hn w' M' s
theorem w_call {g : FuncId} {a : Act} {w : World} {x : Operand} {args : Array Operand} {tys : Array TypeId} {f c : Array Value} {vs : List Value} {dst : Option Tmp} {ty : TypeId} {pos : String} {after : Array Edge} {guard : Option (Nat × Bool)} {K : Value → zac → Prop} {next : Act → World → Prop} {Q : Exit → Act → World → Prop} {r : Option Nat} {n : Nat}
 (hx : ev a.tmps.toList x = .func (.func g) f c) (hv : (f ++ args.map (ev a.tmps.toList) ++ c).toList = vs) (hrun : Run P g vs w.heap K) (hn : ∀ v w', K v w'.heap → Same w w' → next (a.put dst v) w') : (⟨dst, .call ⟨.value x, args, tys⟩, ty, pos, after, guard⟩ : Oper).wpIn (FW r) n P a w next Q := by
 subst hv
 refine zvi rfl (zf0 (K := K) (SWp.r ?_) (zau a) rfl hn)
 simp only [execOp, resolve, hx, Deferred.ofValue]
 exact zpg hrun.1 hrun
theorem w_defer {a : Act} {w : World} {x : Operand} {f : Fn} {p c : Array Value} {tys : Array TypeId} {d : Deferred} {dst : Option Tmp} {ty : TypeId} {pos : String} {after : Array Edge} {guard : Option (Nat × Bool)} {next : Act → World → Prop} {Q : Exit → Act → World → Prop} {n : Nat}
 (hx : ev a.tmps.toList x = .func f p c) (hd : ({ target := .fn f c, args := p } : Deferred) = d) (hn : next (({ a with defers := d :: a.defers } : Act).put dst undef) w) : (⟨dst, .defer ⟨.value x, #[], tys⟩, ty, pos, after, guard⟩ : Oper).wpIn (FW none) n P a w next Q := by
 refine ⟨fun _ _ => trivial, ?_⟩
 rw [show (FW none).round = none from rfl, Oper.semAt_none, zau]
 simp only [execOp, resolve, hx, Deferred.ofValue]
 subst hd
 simp
 exact hn
def okE (e : V) (A : Prop) : Prop :=
 match e with
 | .u (.i .i64 (.ofNat 0)) => A
 | _ => False
def zjr (ro : List Nat) (call : zb2) (G : FuncId) (args : List V) (m : Mem) (K : V → Mem → Prop) : Option Prop :=
 cond (z14 G 95) (match args with
  | [.r b o, .f g a c] => some (call 109 [.r b o] m fun x m1 => cond (zi7 x) (call g (a ++ c) m1 (gcQ (some m.length) fun e m2 => okE e (K e m2))) False)
  | _ => some False) none
theorem okE_S {e : V} {A : Prop} (h : okE e A) : e = .u (.i .i64 0) ∧ A := by
 unfold okE at h
 split at h
 · exact ⟨rfl, h⟩
 · exact h.elim
structure WhP (P : Program) : Prop where
 fw : P.funcs[95]? = some Tryz.f95
 fc : P.funcs[142]? = some Tryz.f142
 nw : ((Tryz.f95).name == "runtime.NumGoroutine") = false
 nc : ((Tryz.f142).name == "runtime.NumGoroutine") = false
 tp : zcv P 24 = some (.one (.pointer none))
 te : zcv P 35 = some (.one (.int .i64 0))
 ze : (P.info? 35).bind (·.zero) = some (.int .i64 0)
 zp : (P.info? 24).bind (·.zero) = some (.pointer none)
 un : P.underlying 24 = some (.pointer 78)
theorem whp : WhP Tryz.prog := ⟨Tryz.func95, Tryz.func142, by kernel_rfl, by kernel_rfl, by kernel_rfl, by kernel_rfl, by kernel_rfl, by kernel_rfl, by kernel_rfl⟩
theorem whole_S (hP : WhP P) {X : Fz → List Loc → Prop} {call : zb2} (hX : Stab X) (hcall : zf9 P X ro hr call) {b o : Nat} {g : FuncId} {a c : List V} {KS : V → Mem → Prop} {vs : List Value}
 (M0 : m.length = ρ.length) (hs : call 109 [.r b o] m fun x m1 => cond (zi7 x) (call g (a ++ c) m1 (gcQ (some m.length) fun e m2 => okE e (KS e m2))) False) (xx : X D ρ) (M : SAt D ρ m chs C h) (ha : RpL D ρ vs [.r b o, .f g a c]) : Run P 95 vs h (zc5 ro hr D ρ m chs C KS) := by
 cases ha with
 | cons h1 ha2 =>
 cases ha2 with
 | cons h2 ha3 =>
 cases ha3
 obtain ⟨L, hL, rfl⟩ := h1.r_inv
 obtain ⟨xs, ys, rfl, hxs, hys⟩ := h2.f_inv
 refine ⟨⟨Tryz.f95, hP.fw, hP.nw, rfl⟩, fun w hw => ?_⟩
 subst hw
 refine (callsIn_wide (n := 0)).1 (callsIn_of_wp_marks (F := FW none) hP.fw rfl trivial ?_)
 generalize hB : Value.pointer (some ⟨L.b, o, none⟩) = vB at *
 generalize hF : Value.func (.func g) xs.toArray ys.toArray = vF at *
 -- the frame
 have e0 : ((#[vB, vF] : Array Value) ++ Array.replicate ((Tryz.f95).ntmps - #[vB, vF].size) undef).toList = [vB, vF, undef, undef, undef, undef, undef, undef, undef, undef, undef, undef, undef] := rfl
 generalize h0 : ({ tmps := [vB, vF].toArray ++ Array.replicate ((Tryz.f95).ntmps - [vB, vF].toArray.size) undef, defers := [] } : Act) = a0
 have f0 : a0.tmps.toList = [vB, vF, undef, undef, undef, undef, undef, undef, undef, undef, undef, undef, undef] := by rw [← h0]; exact e0
 have d0 : a0.defers = [] := by rw [← h0]
 clear h0 e0
 have cB : vB.cells = #[vB] := by rw [← hB]; rfl
 -- region 0
 refine wpIn_seq (wpIn_region_list ?_)
 refine zbq rfl ?_
 refine w_eff (K := fun v h' => ∃ b2, v = .pointer (some ⟨b2, 0, none⟩) ∧ SAt D ρ m chs ([(b2, .cells #[vB] 24 (0, 0))] :: C) h') rfl ?_ ?_
 · simp only [zrx, f0]
   exact ⟨_, rfl, by rw [show (ev [vB, vF, undef, undef, undef, undef, undef, undef, undef, undef, undef, undef, undef] (.tmp 0)).cells = #[vB] from cB]; exact M.cpush _⟩
 rintro _ w1 ⟨b2, rfl, M1⟩ s1
 have f1 := zay (d := some 2) (v := (.pointer (some ⟨b2, 0, none⟩))) f0
 have d1 : (a0.put (some 2) (.pointer (some ⟨b2, 0, none⟩))).defers = [] := by rw [zah, d0]
 generalize a0.put (some 2) (.pointer (some ⟨b2, 0, none⟩)) = a1 at f1 d1 ⊢
 refine zbq rfl ?_
 refine w_eff (K := fun v h' => ∃ b4, v = .pointer (some ⟨b4, 0, none⟩) ∧ SAt D ρ m chs ([(b4, .cells #[.int .i64 0] 35 (0, 0))] :: [(b2, .cells #[vB] 24 (0, 0))] :: C) h') rfl ?_ ?_
 · simp only [zrx]
   rw [hP.ze]
   exact ⟨_, rfl, M1.cpush _⟩
 rintro _ w2 ⟨b4, rfl, M2⟩ s2
 have f2 := zay (d := some 4) (v := (.pointer (some ⟨b4, 0, none⟩))) f1
 have d2 : (a1.put (some 4) (.pointer (some ⟨b4, 0, none⟩))).defers = [] := by rw [zah, d1]
 generalize a1.put (some 4) (.pointer (some ⟨b4, 0, none⟩)) = a2 at f2 d2 ⊢
 refine zmz ?_
 -- region 1, the test
 refine wpIn_seq (wpIn_seq (wpIn_region_list (zbq rfl ?_)))
 refine zsu rfl (zym hP.tp (b := b2) (v := vB) (E := 24) (by rw [f2]; rfl) (M2.cget (by simp))) ?_
 have f3 := zay (d := some 6) (v := vB) f2
 have d3 : (a2.put (some 6) vB).defers = [] := by rw [zah, d2]
 generalize a2.put (some 6) vB = a3 at f3 d3 ⊢
 refine zbq rfl ?_
 obtain ⟨vc, hvc, hrc⟩ := zl1 (P := P) (op := .eql) (T := 24) (x := .tmp 6) (y := .const (.pointer none)) (a := vB) (b := .pointer none) (K := fun v => v = .bool false) (by rw [← hB]; simp only [zub, hP.un]; rfl)
 subst hvc
 refine zsu (v := .bool false) rfl ?_ ?_
 · have e1 : ev a3.tmps.toList (.tmp 6) = vB := by rw [f3]; rfl
   have e2 : ev a3.tmps.toList (.const (.pointer none)) = .pointer none := rfl
   simp only [execOp, e1, e2]
   rw [Sem.run_bind, hrc]
   rfl
 have f4 := zay (d := some 7) (v := (.bool false)) f3
 have d4 : (a3.put (some 7) (.bool false)).defers = [] := by rw [zah, d3]
 generalize a3.put (some 7) (.bool false) = a4 at f4 d4 ⊢
 refine zmz ?_
 refine wpIn_cond_false (by rw [zau, f4]; rfl) (wpIn_skip ?_)
 -- region 3: the clone
 refine wpIn_seq (wpIn_region_list (zbq rfl ?_))
 refine zsu rfl (zym hP.tp (b := b2) (v := vB) (E := 24) (by rw [f4]; rfl) (M2.cget (by simp))) ?_
 have f5 := zay (d := some 8) (v := vB) f4
 have d5 : (a4.put (some 8) vB).defers = [] := by rw [zah, d4]
 generalize a4.put (some 8) vB = a5 at f5 d5 ⊢
 refine zbq rfl ?_
 have hrun1 := hcall (vs := [vB]) xx hs M2 (by rw [← hB]; exact .cons (.r hL) .nil)
 refine w_call (g := 109) (f := #[]) (c := #[]) (vs := [vB]) rfl (by rw [f5]; simp; rfl) hrun1 ?_
 rintro v9 w3 ⟨D1, ρ1, m1, c1, x1, n1, M3, hx1, hk1⟩ s3
 obtain ⟨hp1, hk1⟩ := zaa hk1
 obtain ⟨p9, rfl⟩ := hx1.ptr hp1
 have f6 := zay (d := some 9) (v := .pointer (some p9)) f5
 have d6 : (a5.put (some 9) (.pointer (some p9))).defers = [] := by rw [zah, d5]
 generalize a5.put (some 9) (.pointer (some p9)) = a6 at f6 d6 ⊢
 refine zbq rfl ?_
 refine w_eff (K := fun v h' => ∃ b5, v = .pointer (some ⟨b5, 0, none⟩) ∧ SAt D1 ρ1 m1 c1 ([(b5, .cells #[.pointer none] 24 (0, 0))] :: [(b4, .cells #[.int .i64 0] 35 (0, 0))] :: [(b2, .cells #[vB] 24 (0, 0))] :: C) h') rfl ?_ ?_
 · simp only [zrx]
   rw [hP.zp]
   exact ⟨_, rfl, M3.cpush _⟩
 rintro _ w4 ⟨b5, rfl, M4⟩ s4
 have f7 := zay (d := some 5) (v := .pointer (some ⟨b5, 0, none⟩)) f6
 have d7 : (a6.put (some 5) (.pointer (some ⟨b5, 0, none⟩))).defers = [] := by rw [zah, d6]
 generalize a6.put (some 5) (.pointer (some ⟨b5, 0, none⟩)) = a7 at f7 d7 ⊢
 refine zbq rfl ?_
 refine zyl hP.tp (C1 := []) (b := b5) (u := .pointer none) (v := .pointer (some p9)) (by rw [f7]; rfl) (by rw [f7]; rfl) rfl M4 ?_
 intro w5 M5 s5
 have f8 := zay (d := none) (v := undef) f7
 have d8 : (a7.put none undef).defers = [] := by rw [zah, d7]
 generalize a7.put none undef = a8 at f8 d8 ⊢
 refine zmz ?_
 -- region 4: what is deferred
 refine wpIn_seq (wpIn_region_list (zbq rfl ?_))
 refine zsu (v := .func (.func 142) #[] #[.pointer (some ⟨b4, 0, none⟩), .pointer (some ⟨b5, 0, none⟩), .pointer (some ⟨b2, 0, none⟩)]) rfl ?_ ?_
 · simp only [execOp, Instr.makeFunc, f8, List.map_toArray, z2s, List.map_nil]; rfl
 have f9 := zay (d := some 10) (v := .func (.func 142) #[] #[.pointer (some ⟨b4, 0, none⟩), .pointer (some ⟨b5, 0, none⟩), .pointer (some ⟨b2, 0, none⟩)]) f8
 have d9 : (a8.put (some 10) (.func (.func 142) #[] #[.pointer (some ⟨b4, 0, none⟩), .pointer (some ⟨b5, 0, none⟩), .pointer (some ⟨b2, 0, none⟩)])).defers = [] := by rw [zah, d8]
 generalize a8.put (some 10) (.func (.func 142) #[] #[.pointer (some ⟨b4, 0, none⟩), .pointer (some ⟨b5, 0, none⟩), .pointer (some ⟨b2, 0, none⟩)]) = a9 at f9 d9 ⊢
 refine zbq rfl ?_
 generalize hd : ({ target := .fn (.func 142) #[.pointer (some ⟨b4, 0, none⟩), .pointer (some ⟨b5, 0, none⟩), .pointer (some ⟨b2, 0, none⟩)], args := #[] } : Deferred) = dd
 refine w_defer (f := .func 142) (p := #[]) (c := #[.pointer (some ⟨b4, 0, none⟩), .pointer (some ⟨b5, 0, none⟩), .pointer (some ⟨b2, 0, none⟩)]) (d := dd) (by rw [f9]; rfl) hd ?_
 have f10 := zay (a := { a9 with defers := dd :: a9.defers }) (d := none) (v := undef) f9
 have d10 : (({ a9 with defers := dd :: a9.defers } : Act).put none undef).defers = [dd] := by rw [zah, d9]
 generalize ({ a9 with defers := dd :: a9.defers } : Act).put none undef = a10 at f10 d10 ⊢
 refine zmz ?_
 -- region 5: the call
 refine wpIn_seq (wpIn_region_list (zbq rfl ?_))
 refine zsu (v := vF) rfl ?_ ?_
 · simp only [execOp, f10]; rfl
 have f11 := zay (d := some 11) (v := vF) f10
 have d11 : (a10.put (some 11) vF).defers = [dd] := by rw [zah, d10]
 generalize a10.put (some 11) vF = a11 at f11 d11 ⊢
 refine zbq rfl ?_
 have hrun2 := hcall (hX.nx n1 xx) hk1 M5 (n1.rpL (hxs.app hys))
 refine w_call (g := g) (f := xs.toArray) (c := ys.toArray) (vs := xs ++ ys) (by rw [f11, ← hF]; rfl) (by simp) hrun2 ?_
 rintro v12 w6 ⟨D2, ρ2, m2, c2, x2, n2, M6, hx2, hk2⟩ s6
 obtain ⟨ρ3, m3, c3, t3, n3, M7, F7, hk3⟩ := zpf M (K := fun t m2 => okE (zc7 t 0) (KS (zc7 t 0) m2) ∨ okE (wkV (zc7 t 0)) (KS (wkV (zc7 t 0)) m2)) hk2 (n1.trans n2) M6 (.cons hx2 .nil)
 have hk4 : zc7 t3 0 = .u (.i .i64 0) ∧ KS (.u (.i .i64 0)) m3 := by
  rcases hk3 with hk3 | hk3
  · obtain ⟨e, k⟩ := okE_S hk3; rw [e] at k; exact ⟨e, k⟩
  · obtain ⟨e, k⟩ := okE_S hk3
    rw [e] at k
    refine ⟨?_, k⟩
    revert e
    cases zc7 t3 0 <;> intro e <;> first | exact e | cases e
 have e12 : v12 = .int .i64 0 := by
  have hv : Rp D2 ρ3 v12 (zc7 t3 0) := by cases F7 with | cons h1 _ => exact h1
  rw [hk4.1] at hv
  cases hv with
  | u hr => cases hr; rfl
 subst e12
 have f12 := zay (d := some 12) (v := .int .i64 0) f11
 have d12 : (a11.put (some 12) (.int .i64 0)).defers = [dd] := by rw [zah, d11]
 generalize a11.put (some 12) (.int .i64 0) = a12 at f12 d12 ⊢
 refine zbq rfl ?_
 refine zyl hP.te (C1 := [_]) (b := b4) (u := .int .i64 0) (v := .int .i64 0) (by rw [f12]; rfl) (by rw [f12]; rfl) rfl M7 ?_
 intro w7 M8 s7
 have f13 := zay (d := none) (v := undef) f12
 have d13 : (a12.put none undef).defers = [dd] := by rw [zah, d12]
 generalize a12.put none undef = a13 at f13 d13 ⊢
 refine zmz (wpIn_ret ?_)
 -- the door
 show LeavesInM _ _ P _ a13.tmps _ a13.defers .returning w7
 rw [d13, ← hd]
 have ss := s1.trans (s2.trans (s3.trans (s4.trans (s5.trans (s6.trans s7)))))
 refine ⟨by simp, .inr ⟨(by intro h; cases h), _, _, _, _, rfl, zde ⟨_, hP.fc, hP.nc, rfl⟩ _ _, fun _ _ => trivial, (callsDIn_of_wp (R := fun e w' => e = .returned (.tuple #[]) ∧ w' = w7) hP.fc rfl trivial ?_).mono ?_⟩⟩
 · generalize h0 : ({ tmps := #[] ++ #[Value.pointer (some ⟨b4, 0, none⟩), .pointer (some ⟨b5, 0, none⟩), .pointer (some ⟨b2, 0, none⟩)] ++ Array.replicate ((Tryz.f142).ntmps - (#[] ++ #[Value.pointer (some ⟨b4, 0, none⟩), .pointer (some ⟨b5, 0, none⟩), .pointer (some ⟨b2, 0, none⟩)]).size) undef, defers := [] } : Act) = q0
   have g0 : q0.tmps.toList = [Value.pointer (some ⟨b4, 0, none⟩), .pointer (some ⟨b5, 0, none⟩), .pointer (some ⟨b2, 0, none⟩), undef, undef, undef, undef, undef, undef, undef] := by rw [← h0]; rfl
   have k0 : q0.defers = [] := by rw [← h0]
   clear h0
   refine wpIn_seq (wpIn_region_list (zbq rfl ?_))
   refine zsu rfl (zym hP.te (b := b4) (v := .int .i64 0) (E := 35) (by rw [g0]; rfl) (M8.cget (by simp))) ?_
   have g1 := zay (d := some 3) (v := .int .i64 0) g0
   have k1 : (q0.put (some 3) (.int .i64 0)).defers = [] := by rw [zah, k0]
   generalize q0.put (some 3) (.int .i64 0) = q1 at g1 k1 ⊢
   refine zbq rfl ?_
   obtain ⟨vd, hvd, hrd⟩ := zl1 (P := P) (op := .neq) (T := 35) (x := .tmp 3) (y := .const (.int .i64 0)) (a := .int .i64 0) (b := .int .i64 0) (K := fun v => v = .bool false) rfl
   subst hvd
   refine zsu (v := .bool false) rfl ?_ ?_
   · have e1 : ev q1.tmps.toList (.tmp 3) = .int .i64 0 := by rw [g1]; rfl
     have e2 : ev q1.tmps.toList (.const (.int .i64 0)) = .int .i64 0 := rfl
     simp only [execOp, e1, e2]
     rw [Sem.run_bind, hrd]
     rfl
   have g2 := zay (d := some 4) (v := .bool false) g1
   have k2 : (q1.put (some 4) (.bool false)).defers = [] := by rw [zah, k1]
   generalize q1.put (some 4) (.bool false) = q2 at g2 k2 ⊢
   refine zmz ?_
   refine wpIn_cond_false (by rw [zau, g2]; rfl) (wpIn_skip ?_)
   exact ⟨k2, .tuple #[], by simp [results], rfl, rfl⟩
 · rintro e u' w' ⟨rfl, rfl, rfl⟩
   have hb4 := M8.cget (b := b4) (o := .cells #[.int .i64 0] 35 (0, 0)) (by simp)
   obtain ⟨v, hv, hr⟩ := zeh (P := P) (fn := Tryz.f95) (tmps := a13.tmps) rfl (h := w'.heap) (R := fun v _ => v = .int .i64 0) (by
    rw [f13]
    show zxk P 35 (some ⟨b4, 0, none⟩) w'.heap _
    unfold zxk
    rw [hP.te]
    exact ⟨_, by rw [zaz hb4]; rfl, rfl⟩)
   subst hv
   refine ⟨_, hr w' rfl, _, rfl, ⟨D2, ρ3, m3, c3, .u (.i .i64 0), n3, M8.cdrop.cdrop.cdrop, .u (by constructor), hk4.2⟩, ss⟩
theorem wholeF_S (hP : WhP P) {X : Fz → List Loc → Prop} {call : zb2} (hX : Stab X) (hcall : zf9 P X ro hr call) {G : FuncId} {args : List V} {KS : V → Mem → Prop} {p : Prop} (hs : zjr (hr ++ ro) call G args m KS = some p) (hp : p) {vs : List Value} (xx : X D ρ) (M : SAt D ρ m chs C h) (ha : RpL D ρ vs args) : Run P G vs h (zc5 ro hr D ρ m chs C KS) := by
 unfold zjr at hs
 cases hb : z14 G 95 with
 | false => rw [hb] at hs; cases hs
 | true =>
   rw [hb] at hs
   have := z18 hb
   subst this
   simp only [cond_true] at hs
   split at hs
   · simp only [Option.some.injEq] at hs
     subst hs
     exact whole_S hP hX hcall M.len.symm hp xx M ha
   · simp only [Option.some.injEq] at hs
     subst hs
     exact hp.elim
def zy7 (hP : WhP P) : SP P where  -- 95
 f := zjr
 ok := by
  intro ro hr X call hX hcall g args m KS p hs hp D ρ chs C h vs xx M ha
  exact wholeF_S hP hX hcall hs hp xx M ha
def okEE (r : V × Mem) : Option Out :=
 match r.1 with
 | .u (.i .i64 (.ofNat 0)) => some [(.u (.i .i64 (.ofNat 0)), r.2)]
 | _ => none
theorem okEE_ok {r : V × Mem} {l : Out} {K : V → Mem → Prop} (h : okEE r = some l) (hK : ∀ x ∈ l, K x.1 x.2) : okE r.1 (K r.1 r.2) := by
 obtain ⟨x, m⟩ := r
 unfold okEE at h
 dsimp only at h
 split at h
 · cases h
   exact hK (.u (.i .i64 (.ofNat 0)), m) (by simp)
 · cases h
noncomputable def zp4 (ro : List Nat) (callE : zd7) (G : FuncId) (args : List V) (m : Mem) : Option (Option Out) :=
 cond (z14 G 95) (match args with
  | [.r b o, .f g a c] => some (zes (callE 109 [.r b o] m) fun r1 => cond (zi7 r1.1) (zes (callE g (ze4 a c) r1.2) fun r2 => match gcVF (zc8 m) r2 with
    | some r3 => okEE r3
    | none => none) none)
  | _ => some none) none
theorem zyj {callE : zd7} {call : zb2} (hc : zfq callE call) {g : FuncId} {args : List V} {rs : Out} {K : V → Mem → Prop} (h : zp4 ro callE g args m = some (some rs)) (hK : ∀ r ∈ rs, K r.1 r.2) : ∃ p, zjr ro call g args m K = some p ∧ p := by
 unfold zp4 at h
 unfold zjr
 cases hb : z14 g 95 with
 | false => rw [hb] at h; cases h
 | true =>
   rw [hb] at h
   simp only [cond_true] at h ⊢
   split at h
   · rename_i b o g' a c
     refine ⟨_, rfl, ?_⟩
     simp only [Option.some.injEq] at h
     obtain ⟨l1, h1, h2⟩ := za6 h
     refine hc h1 fun r1 hr1 => ?_
     obtain ⟨l2, h3, h4⟩ := h2 r1 hr1
     obtain ⟨h5, h6⟩ := zai h3
     rw [h5]
     simp only [cond_true]
     obtain ⟨l3, h7, h8⟩ := za6 h6
     rw [za4] at h7
     refine hc h7 fun r2 hr2 => ?_
     obtain ⟨l4, h9, h10⟩ := h8 r2 hr2
     split at h9
     · rename_i r3 h11
       rw [za3] at h11
       exact z1n (K := fun e m2 => okE e (K e m2)) h11 (.inl (okEE_ok h9 fun x hx => hK x (h4 x (h10 x hx))))
     · cases h9
   · cases h
theorem zyk {callE : zd7} {call : zb2} {g : FuncId} {args : List V} {K : V → Mem → Prop} (h : zp4 ro callE g args m = none) : zjr ro call g args m K = none := by
 unfold zp4 at h
 unfold zjr
 cases hb : z14 g 95 with
 | false => rfl
 | true =>
   rw [hb] at h
   simp only [cond_true] at h
   split at h <;> cases h
noncomputable def zal (hP : WhP P) : SPE P where  -- 95
 sp := zy7 hP
 e := zp4
 ok := by
  intro ro callE call hc g args m rs K h hK
  exact zyj hc h hK
 no := by
  intro ro callE call g args m K h
  exact zyk h
end
section
set_option maxRecDepth 1000000
variable {Q : V → Mem → Prop}
def vO (id : Int) : Int := 2097152 + id
theorem zf4 : Tryz.prog.follows .mixedOrders = true := by kernel_rfl
theorem above2_S : PRun Tryz.prog 141 [] [.i 2] fun x m => x = .i 2097152 ∧ m = [] :=
 zgn zf4 (zal whp) (inl := z2b 600) (nl := 300) (n := 60) Tryz.func141 (by kernel_rfl) (r := (.i 2097152, [])) (by kernel_rfl)
theorem zka {id : Int} (h : 1 ≤ id ∧ id < 1048576) (k : Q (.t [.i (vO id), .i 0]) []) : PRun Tryz.prog 94 [] [.i 2, .i id] Q := by
 refine S94 (above2_S.mono ?_)
 rintro _ _ ⟨rfl, rfl⟩
 rw [zax]
 refine cEq (fun h => absurd h (by decide)) fun _ => cIf (fun h1 => by omega) fun _ => cIf (fun h1 => by omega) fun _ => ?_
 rw [w64 (by omega) (by omega)]
 exact k
theorem vmoney_S {l : Tb} {n id : Int} (hs : Srt l) (hl : l.length ≤ 1000000) (h : 1 ≤ id ∧ id < 1048576) (k : Q (.i (zag (oK (vO id)) l)) [pC l n]) : PRun Tryz.prog 156 [pC l n] [.r 0 0, .i id] Q := by
 refine S156 (zka h ?_)
 rw [zbk]
 refine cNe (fun h => absurd rfl h) fun _ => zdj hs hl ?_
 exact k
def payE (f id n : Int) (l : Tb) : Int := if zb5 f l then (if n < 0 then 1 else if zag (oK f) l < n then 6 else 0) else 3
def payL (f id n : Int) (l : Tb) : Tb := zi6 f (vO id) n (zg9 (vO id) l)
theorem zq1 {o : Int} {l : Tb} (hs : Srt l) : Srt (zg9 o l) := by
 unfold zg9
 split
 · exact zeb hs
 · exact hs
theorem zq2 {o : Int} {l : Tb} (hs : Srt l) (ho : 0 ≤ o ∧ o ≤ 1099511627776) (j : Int) : zaq (oK j) (zg9 o l) = if j = o then some (zag (oK o) l) else zaq (oK j) l := by
 unfold zg9 zkd
 rw [if_neg (show ¬ o < 0 by omega), if_neg (show ¬ 1099511627776 < o by omega)]
 cases hg : zaq (oK o) l with
 | some v =>
   simp only [Option.isSome_some, if_true]
   rw [if_neg (by decide)]
   split
   · rename_i e; subst e; rw [hg]; unfold zag; rw [hg]; rfl
   · rfl
 | none =>
   simp only [Option.isSome_none, z3n, if_false, if_true]
   rw [zfs _ hs]
   unfold zag
   rw [hg]
   by_cases e : j = o
   · subst e; rw [if_pos rfl, if_pos rfl]; rfl
   · rw [if_neg e, if_neg (fun h => e (by have := congrArg K4.a h; exact this))]
theorem zq0 {o : Int} {l : Tb} (hs : Srt l) (ho : 0 ≤ o ∧ o ≤ 1099511627776) (j : Int) : zag (oK j) (zg9 o l) = zag (oK j) l := by
 unfold zag
 rw [zq2 hs ho]
 split
 · rename_i e; subst e; unfold zag; rfl
 · rfl
theorem zkc {o : Int} {l : Tb} (hs : Srt l) (ho : 0 ≤ o ∧ o ≤ 1099511627776) (j : Int) : zb5 j (zg9 o l) = (decide (j = o) || zb5 j l) := by
 unfold zb5
 rw [zq2 hs ho]
 split
 · rename_i e; subst e; simp
 · rename_i e; simp [e]
theorem z0h (o : Int) (l : Tb) : (zg9 o l).length ≤ l.length + 1 := by
 unfold zg9
 split
 · exact zjc
 · omega
theorem PInv.opn {l : Tb} {n o : Int} (h : PInv l n) (ho : 0 ≤ o ∧ o ≤ 1099511627776) : PInv (zg9 o l) n := by
 unfold zg9
 split
 · rename_i e
   have hg : zaq (oK o) l = none := by
    unfold zkd at e
    rw [if_neg (show ¬ o < 0 by omega), if_neg (show ¬ 1099511627776 < o by omega)] at e
    cases hg : zaq (oK o) l with
    | none => rfl
    | some v => rw [hg] at e; simp at e
   have := h.put (o := o) (v := 0) ho (z2v _) (by have h1 := (h.val o).1; have := h.top; omega)
   have e0 : zag (oK o) l = 0 := by unfold zag; rw [hg]; rfl
   rwa [e0, show n + 0 - 0 = n by omega] at this
 · exact h
theorem pay_S {l : Tb} {n0 f id n : Int} (h : PInv l n0) (hl : l.length ≤ 800000) (hid : 1 ≤ id ∧ id < 1048576) (k1 : payE f id n l ≠ 0 → Q (.i (payE f id n l)) [pC l n0])
 (k2 : payE f id n l = 0 → PInv (payL f id n l) n0 → (payL f id n l).length ≤ l.length + 1 → Q (.i 0) [pC (payL f id n l) n0]) :
 PRun Tryz.prog 41 [pC l n0] [.r 0 0, .i f, .i id, .i n] Q := by
 have ho : 0 ≤ vO id ∧ vO id ≤ 1099511627776 := by unfold vO; omega
 refine S41 (zka hid ?_)
 rw [zbk]
 refine cNe (fun h => absurd rfl h) fun _ => zdj h.srt (by omega) ?_
 show (bif (if (zaq (oK f) l).isSome = true then (0 : Int) else 3) != 0 then Q (.i (if (zaq (oK f) l).isSome = true then (0 : Int) else 3)) [pC l n0] else _ : Prop)
 unfold payE zb5 at k1 k2
 by_cases hg : (zaq (oK f) l).isSome = true
 · rw [if_pos hg]
   rw [if_pos hg] at k1 k2
   refine cNe (fun h => absurd rfl h) fun _ => cIf (fun h1 => ?_) fun h1 => cIf (fun h2 => ?_) fun h2 => ?_
   · rw [if_pos h1] at k1; exact k1 (by decide)
   · rw [if_neg h1, if_pos h2] at k1; exact k1 (by decide)
   rw [if_neg h1, if_neg h2] at k2
   have ol := z0h (vO id) l
   refine open_S h.srt (by omega) ?_
   show PRun _ _ _ _ _
   have po := h.opn ho
   have em : zdi f (vO id) n (zg9 (vO id) l) = 0 := by
    unfold zdi zkl
    rw [zkc h.srt ho, zkc h.srt ho, zq0 h.srt ho]
    have : zb5 f l = true := hg
    rw [this]
    simp
    omega
   refine z0t po (by omega) (fun hb => absurd em hb) fun _ => ?_
   show Q (.i 0) _
   exact k2 rfl (po.move em) (by unfold payL; rw [zki po.srt em]; exact ol)
 · rw [if_neg hg]
   rw [if_neg hg] at k1
   exact k1 (by decide)
abbrev Pm := Int × Int × Int
abbrev eP (x : Pm) : List U := [.n x.1, .n x.2.1, .n x.2.2]
def zgh (o : Int) : List Pm → Tb → Tb
 | [], l => l
 | x :: r, l => zgh o r (if 0 < x.2.2 then (if zdi o x.2.1 x.2.2 l = 0 then zi6 o x.2.1 x.2.2 l else l) else l)
def ze9 : List Pm → Int → Prop
 | [], left => left = 0
 | x :: r, left => x.1 = 0 ∧ 0 ≤ x.2.2 ∧ x.2.2 ≤ left ∧ ze9 r (left - x.2.2)
theorem payOut_S {l : Tb} {n0 id : Int} {ps : List Pm} (h : PInv l n0) (hl : l.length ≤ 800000) (hid : 1 ≤ id ∧ id < 1048576) (hp : ps.length ≤ 1000)
 (k1 : ∀ e, ¬ (ze9 ps (zag (oK (vO id)) l) ∧ ∀ x ∈ ps, zb5 x.2.1 l = true) → Q (.i e) [pC l n0])
 (k2 : ze9 ps (zag (oK (vO id)) l) → (∀ x ∈ ps, zb5 x.2.1 l = true) → PInv (zgh (vO id) ps l) n0 → (zgh (vO id) ps l).length = l.length → Q (.i 0) [pC (zgh (vO id) ps l) n0]) :
 PRun Tryz.prog 111 [pC l n0] [.r 0 0, .i id, .l 3 (ps.map eP)] Q := by
 have ho : 0 ≤ vO id ∧ vO id ≤ 1099511627776 := by unfold vO; omega
 refine S111 (zka hid ?_)
 rw [zbk]
 refine cNe (fun h => absurd rfl h) fun _ => vmoney_S h.srt (by omega) hid ?_
 show (∃ (I1 : Int → Int → Prop) (f1 : Int → Int → Nat), _)
 have hv := h.val (vO id)
 have htop := h.top
 refine ⟨fun left x => SufI ps (fun r => 0 ≤ left ∧ left ≤ zag (oK (vO id)) l ∧ (ze9 r left ↔ ze9 ps (zag (oK (vO id)) l))) x, fun _ x => zmv ps x, .zero (by omega) ⟨hv.1, z2v _, Iff.rfl⟩, ?_⟩
 rintro left x ⟨r, s, h1, h2, h3⟩
 cases r with
 | cons q r =>
   simp only [s.d1, s.el, eP, ug0, ugs, zcs, cond_true]
   have no : ¬ ze9 (q :: r) left → ¬ (ze9 ps (zag (oK (vO id)) l) ∧ ∀ x ∈ ps, zb5 x.2.1 l = true) := fun hn hh => hn (h3.2 hh.1)
   refine cNe (fun hb => k1 1 (no fun hh => hb hh.1)) fun hb0 => cIf (fun hb => k1 1 (no fun hh => by have := hh.2.1; omega)) fun hb1 => cIf (fun hb => k1 1 (no fun hh => by have := hh.2.2.1; omega)) fun hb2 => ?_
   rw [w64 (x := left - q.2.2) (by omega) (by omega)]
   exact s.step ⟨by omega, by omega, ⟨fun hh => h3.1 ⟨hb0, by omega, by omega, hh⟩, fun hh => (h3.2 hh).2.2.2⟩⟩
 | nil =>
   rw [s.d0, cond_false]
   refine cNe (fun hb => k1 1 fun hh => hb (h3.2 hh.1)) fun hb => ?_
   have hok : ze9 ps (zag (oK (vO id)) l) := h3.1 hb
   refine ⟨fun x l' y => SufI ps (fun r => l.map eT = l' ∧ n0 = y ∧ ((∀ x ∈ r, zb5 x.2.1 l = true) ↔ ∀ x ∈ ps, zb5 x.2.1 l = true)) x, fun x _ _ => zmv ps x, .zero (by omega) ⟨rfl, rfl, Iff.rfl⟩, ?_⟩
   rintro x2 _ _ ⟨r, s, rfl, rfl, h4⟩
   cases r with
   | cons q r =>
     simp only [s.d1, s.el, eP, ug0, ugs, zcs, cond_true]
     refine zdj h.srt (by omega) ?_
     show (bif (if (zaq (oK q.2.1) l).isSome = true then (0 : Int) else 3) != 0 then Q (.i (if (zaq (oK q.2.1) l).isSome = true then (0 : Int) else 3)) [pC l n0] else _ ∧ _ : Prop)
     by_cases hg : (zaq (oK q.2.1) l).isSome = true
     · rw [if_pos hg]
       refine cNe (fun h => absurd rfl h) fun _ => s.step ⟨by first | trivial | rfl, by first | trivial | rfl, ⟨fun hh => h4.1 fun y hy => ?_, fun hh y hy => h4.2 hh y (z2j _ hy)⟩⟩
       rcases z2e.1 hy with rfl | hy
       · exact hg
       · exact hh y hy
     · rw [if_neg hg]
       exact k1 3 fun hh => hg (h4.2 hh.2 q z2p)
   | nil =>
     have hall : ∀ x ∈ ps, zb5 x.2.1 l = true := h4.1 fun y hy => by simp at hy
     rw [s.d0, cond_false]
     refine ⟨fun x l' y => SufI ps (fun r => ∃ lt, lt.map eT = l' ∧ n0 = y ∧ PInv lt n0 ∧ lt.length = l.length ∧ zgh (vO id) r lt = zgh (vO id) ps l) x, fun x _ _ => zmv ps x, .zero (by omega) ⟨l, rfl, rfl, h, rfl, rfl⟩, ?_⟩
     rintro x3 _ _ ⟨r, s, lt, rfl, rfl, hi, hln, hpl⟩
     cases r with
     | nil =>
       rw [s.d0, cond_false]
       have e : lt = zgh (vO id) ps l := hpl
       rw [e] at hi hln ⊢
       exact k2 hok hall hi hln
     | cons q r =>
       simp only [s.d1, s.el, eP, ug0, ugs, zcs, cond_true]
       refine cIf (fun hq => ?_) fun hq => ?_
       · refine z0t hi (by omega) (fun he => ?_) fun he => ?_
         · refine s.step ⟨lt, by first | trivial | rfl, by first | trivial | rfl, hi, hln, ?_⟩
           rw [← hpl]; simp only [zgh]; rw [if_pos hq, if_neg he]
         · refine s.step ⟨_, by first | trivial | rfl, by first | trivial | rfl, hi.move he, by rw [zki hi.srt he]; exact hln, ?_⟩
           rw [← hpl]; simp only [zgh]; rw [if_pos hq, if_pos he]
       · refine s.step ⟨lt, by first | trivial | rfl, by first | trivial | rfl, hi, hln, ?_⟩
         rw [← hpl]; simp only [zgh]; rw [if_neg hq]
end
section
set_option maxRecDepth 1000000
variable {Q : V → Mem → Prop}
def zhj (x k : K4) : Bool := k.a == x.a && (k.b == x.b && k.c == x.c)
def zdx (x : K4) (l : Tb) : List Stk := (l.filter fun r => zhj x r.1).map fun r => (r.1.d, r.2)
theorem inDv_iff {x k : K4} : zhj x k = true ↔ k = bin x k.d := by
 unfold zhj
 simp only [z17, beq_iff_eq]
 constructor
 · rintro ⟨h1, h2, h3⟩; exact K4.ext' h1 h2 h3 rfl
 · intro h; rw [h]; exact ⟨rfl, rfl, rfl⟩
theorem zqd {k : K4} : ∀ {l : Tb}, Srt l → l.take (zba k l) = l.filter fun r => decide (r.1.lt k)
 | [], _ => rfl
 | r :: l, hs => by
   simp only [zba]
   by_cases h : r.1.lt k
   · rw [if_pos h, List.take_succ_cons, zqd hs.tail, z3m (by simpa using h)]
   · rw [if_neg h, List.take_zero, z3q (by simpa using h)]
     symm
     refine z5i.2 fun s hs' => ?_
     have := hs.head s hs'
     simp only [decide_eq_true_eq]
     exact fun h2 => h (this.trans h2)
theorem zrz {k : K4} : ∀ {l : Tb}, Srt l → l.drop (zba k l) = l.filter fun r => !decide (r.1.lt k)
 | [], _ => rfl
 | r :: l, hs => by
   simp only [zba]
   by_cases h : r.1.lt k
   · rw [if_pos h, z59, zrz hs.tail, z3q (by simpa using h)]
   · rw [if_neg h, z38]
     symm
     refine List.filter_eq_self.2 fun s hs' => ?_
     simp only [z2u, decide_eq_false_iff_not]
     rcases z2e.1 hs' with rfl | hs'
     · exact h
     · exact fun h2 => h ((hs.head s hs').trans h2)
theorem zyy {j k : K4} {l : Tb} (hs : Srt l) (h : j.lt k) : zba j l ≤ zba k l := by
 rcases z3z (zba k l) (zba j l) with h1 | h1
 · have h2 := zjv j l
   have hr := z2c (l := l) (show zba k l < l.length by omega)
   exact absurd ((zs0 h1 hr).trans h) (zs1 hs (z2r _) hr)
 · exact h1
theorem Srt.filter {l : Tb} (hs : Srt l) (p : K4 × Int → Bool) : Srt (l.filter p) := List.Pairwise.filter _ hs
theorem zjw {j k : K4} : ∀ {l : Tb}, Srt l → j.lt k → zba j (l.filter fun r => decide (r.1.lt k)) = zba j l
 | [], _, _ => rfl
 | r :: l, hs, hjk => by
   by_cases h : r.1.lt k
   · rw [z3m (by simpa using h)]
     simp only [zba]
     rw [zjw hs.tail hjk]
   · have hj : ¬ r.1.lt j := fun h2 => h (h2.trans hjk)
     rw [z3q (by simpa using h)]
     have e : (l.filter fun r => decide (r.1.lt k)) = [] := z5i.2 fun s hs' => by
      simp only [decide_eq_true_eq]
      exact fun h2 => h ((hs.head s hs').trans h2)
     rw [e]
     simp only [zba]
     rw [if_neg hj]
theorem slice_dv {x : K4} {l : Tb} (h : BInv l) : (l.take (zba (bin x 33) l)).drop (zba (bin x 1) l) = l.filter fun r => zhj x r.1 := by
 have hlt : (bin x 1).lt (bin x 33) := by unfold K4.lt; simp
 rw [zqd h.srt, ← zjw h.srt hlt, zrz (h.srt.filter _), List.filter_filter]
 refine List.filter_congr fun r hr => ?_
 have hd := zxm (h.key r hr).1
 have h1 : decide (r.1.lt (bin x 1)) = decide (r.1.a < x.a ∨ (r.1.a = x.a ∧ (r.1.b < x.b ∨ (r.1.b = x.b ∧ (r.1.c < x.c ∨ (r.1.c = x.c ∧ r.1.d < 1)))))) := decide_eq_decide.2 Iff.rfl
 have h2 : decide (r.1.lt (bin x 33)) = decide (r.1.a < x.a ∨ (r.1.a = x.a ∧ (r.1.b < x.b ∨ (r.1.b = x.b ∧ (r.1.c < x.c ∨ (r.1.c = x.c ∧ r.1.d < 33)))))) := decide_eq_decide.2 Iff.rfl
 rw [h1, h2, Bool.eq_iff_iff]
 simp only [zhj, z17, z2u, decide_eq_true_eq, decide_eq_false_iff_not, beq_iff_eq]
 constructor
 · intro h; omega
 · intro h; omega
theorem of_B {x : K4} {l : Tb} (h : BInv l) (hl : l.length ≤ 900000) (K : Q (.l 2 ((zdx x l).map eS)) [bK l]) : PRun Tryz.prog 117 [bK l] [.r 0 0, kV x] Q := by
 have hlt : (bin x 1).lt (bin x 33) := by unfold K4.lt; simp
 have hm := zyy h.srt hlt
 have hle := zjv (bin x 33) l
 refine S117 (zb9 (k := bin x 1) h.srt (by omega) ?_)
 show PRun _ _ _ _ _
 refine zb9 (k := bin x 33) h.srt (by omega) ?_
 show (0 : Int) ≤ ((zba (bin x 1) l : Nat) : Int) ∧ _
 have emax : (if ((zba (bin x 33) l : Nat) : Int) > ((zba (bin x 1) l : Nat) : Int) then ((zba (bin x 33) l : Nat) : Int) else ((zba (bin x 1) l : Nat) : Int)) = ((zba (bin x 33) l : Nat) : Int) := by
  split <;> omega
 rw [emax]
 have ers : List.drop (z16 ((zba (bin x 1) l : Nat) : Int)) (List.take (z16 ((zba (bin x 33) l : Nat) : Int)) (l.map eT)) = (l.filter fun r => zhj x r.1).map eT := by
  rw [z27, z27, ← slice_dv h, List.map_drop, z5b]
 rw [ers]
 have hfl : (l.filter fun r => zhj x r.1).length ≤ l.length := z44 _ _
 have hlen : (((l.filter fun r => zhj x r.1).map eT).length : Int) = ((l.filter fun r => zhj x r.1).length : Int) := by rw [z2d]
 refine ⟨by omega, by omega, by rw [z2d]; omega, ?_⟩
 unfold zdx at K
 generalize l.filter (fun r => zhj x r.1) = f at *
 refine ⟨fun y o => ∃ i : Nat, y = (i : Int) ∧ i ≤ f.length ∧ o = ((f.take i).map fun r => (r.1.d, r.2)).map eS, fun y _ => (f.length - y).toNat, ⟨0, rfl, z3j _, rfl⟩, ?_⟩
 rintro _ _ ⟨i, rfl, hi, rfl⟩
 rw [hlen]
 refine cIf (fun hc => ?_) fun hc => ?_
 · have hlt : i < f.length := by omega
   rw [zav (r := eT f[i]) (by omega) (by simp [hlt])]
   simp only [eT, ug0, ugs, zcs]
   have e1 : z13 .i64 ((i : Int) + 1) = ((i + 1 : Nat) : Int) := by rw [w64 (by omega) (by omega)]; omega
   rw [e1]
   have e2 : ((f.take i).map fun r => (r.1.d, r.2)).map eS ++ [[.n f[i].1.d, .n f[i].2]] = ((f.take (i + 1)).map fun r => (r.1.d, r.2)).map eS := by
    rw [z6m hlt, z28, z28]
    rfl
   refine ⟨?_, ⟨i + 1, rfl, by omega, e2⟩, by omega⟩
   unfold zbo
   simp
   omega
 · have : i = f.length := by omega
   subst this
   rw [z4r]
   exact K
theorem zvr {x : K4} {l : Tb} {s : Stk} (h : s ∈ zdx x l) : (bin x s.1, s.2) ∈ l := by
 obtain ⟨r, hr, rfl⟩ := z20.1 h
 obtain ⟨h1, h2⟩ := z3p.1 hr
 have := inDv_iff.1 h2
 show (bin x r.1.d, r.2) ∈ l
 rw [← this]
 exact h1
theorem lieL_of {x : K4} {l : Tb} {t v : Int} (h : (bin x t, v) ∈ l) : (t, v) ∈ zdx x l :=
 z20.2 ⟨(bin x t, v), z3p.2 ⟨h, inDv_iff.2 rfl⟩, rfl⟩
theorem z1b {x : K4} {l : Tb} (hs : Srt l) : (zdx x l).Pairwise fun a b => a.1 < b.1 := by
 unfold zdx
 rw [z6g]
 refine (List.Pairwise.and_mem.1 (hs.filter fun r => zhj x r.1)).imp ?_
 rintro a b ⟨ha, hb, hab⟩
 have h1 := inDv_iff.1 (z3p.1 ha).2
 have h2 := inDv_iff.1 (z3p.1 hb).2
 rw [h1, h2] at hab
 unfold K4.lt at hab
 simp only at hab
 omega
def rmv (x : K4) (l : Tb) : Tb := l.filter fun r => !zhj x r.1
theorem zjy {p : K4 → Bool} {k : K4} : ∀ {l : Tb}, Srt l → zaq k (l.filter fun r => p r.1) = if p k then zaq k l else none
 | [], _ => by simp [zaq]
 | r :: l, hs => by
   have ih := zjy (p := p) (k := k) hs.tail
   by_cases hp : p r.1
   · rw [z3m (p := fun r : K4 × Int => p r.1) hp]
     simp only [zaq]
     by_cases e : r.1 = k
     · rw [if_pos e, if_pos e, if_pos (by rw [← e]; exact hp)]
     · rw [if_neg e, if_neg e, ih]
   · rw [z3q (p := fun r : K4 × Int => p r.1) hp, ih]
     simp only [zaq]
     by_cases e : r.1 = k
     · rw [if_neg (by rw [← e]; exact hp), if_neg (by rw [← e]; exact hp)]
     · rw [if_neg e]
theorem zzn {x k : K4} {l : Tb} (hs : Srt l) : zaq k (rmv x l) = if zhj x k then none else zaq k l := by
 unfold rmv
 rw [zjy (p := fun k => !zhj x k) hs]
 cases zhj x k <;> rfl
theorem Srt.ext : ∀ {l m : Tb}, Srt l → Srt m → (∀ k, zaq k l = zaq k m) → l = m
 | [], [], _, _, _ => rfl
 | [], r :: m, _, _, h => by
   have := h r.1
   simp [zaq] at this
 | r :: l, [], _, _, h => by
   have := h r.1
   simp [zaq] at this
 | r :: l, q :: m, hl, hm, h => by
   have h1 : zaq r.1 (q :: m) = some r.2 := by rw [← h]; simp [zaq]
   have h2 : zaq q.1 (r :: l) = some q.2 := by rw [h]; simp [zaq]
   have e : r.1 = q.1 := by
    rcases K4.tri r.1 q.1 with h3 | h3 | h3
    · have h4 := zdd h1
      rcases z2e.1 h4 with h5 | h5
      · have : r.1 = q.1 := congrArg Prod.fst h5
        exact this
      · exact absurd ((hm.head _ h5).trans h3) (K4.irr _)
    · exact h3
    · have h4 := zdd h2
      rcases z2e.1 h4 with h5 | h5
      · exact (congrArg Prod.fst h5).symm
      · exact absurd ((hl.head _ h5).trans h3) (K4.irr _)
   have e2 : r.2 = q.2 := by
    have := h r.1
    simp only [zaq, if_true] at this
    rw [if_pos e.symm] at this
    simpa using this
   have er : r = q := Prod.ext e e2
   subst er
   rw [Srt.ext hl.tail hm.tail fun k => ?_]
   have := h k
   simp only [zaq] at this
   by_cases ek : r.1 = k
   · subst ek
     rw [zjx fun s hs e3 => by have := hl.head s hs; rw [e3] at this; exact K4.irr _ this, zjx fun s hs e3 => by have := hm.head s hs; rw [e3] at this; exact K4.irr _ this]
   · rw [if_neg ek, if_neg ek] at this
     exact this
theorem zyh {f : K4 → Bool} {p : K4 × Int → Bool} : ∀ {l : Tb}, (∀ r ∈ l, 0 ≤ r.2) → zga f (l.filter p) ≤ zga f l
 | [], _ => z2v _
 | r :: l, h => by
   have h1 := h r z2p
   have ih := zyh (f := f) (p := p) (l := l) fun s hs => h s (z2j _ hs)
   by_cases hp : p r
   · rw [z3m hp]; simp only [zga]; omega
   · rw [z3q hp]; simp only [zga]; split <;> omega
theorem BInv.rmv {l : Tb} (h : BInv l) (x : K4) : BInv (rmv x l) where
 srt := h.srt.filter _
 key r hr := h.key r (z3p.1 hr).1
 top d := by
  have := h.top d
  have h2 := zyh (f := fun k => k.d == d) (p := fun r => !zhj x r.1) h.nn
  unfold tyQ at *
  exact Int.le_trans h2 this
theorem at_S {o p : Int} (k : Q (.a [.i o, .i 0, .i p, .i 1]) []) : PRun Tryz.prog 97 [] [.i o, .i p] Q := S97 k
theorem z1h {p : Int} (k : Q (.u (.b (decide (p ≥ 1) && decide (p ≤ 8)))) []) : PRun Tryz.prog 116 [] [.i p] Q := by
 refine S116 ?_
 generalize hk : (fun b => Q (.u (.b b)) []) = q
 have e : ∀ b, Q (.u (.b b)) [] = q b := fun b => by rw [← hk]
 rw [e] at k
 simp only [e]
 exact zoz k fun h => h
abbrev vK (id place : Int) : K4 := ⟨vO id, 0, place, 1⟩
theorem zr2 {l : Tb} {id place : Int} (h : BInv l) (hl : l.length ≤ 900000) (hid : 1 ≤ id ∧ id < 1048576) (hp : 1 ≤ place ∧ place ≤ 8)
 (K : Q (.t [.l 2 ((zdx (vK id place) l).map eS), .i 0]) [bK (rmv (vK id place) l)]) : PRun Tryz.prog 58 [bK l] [.r 0 0, .i 2, .i id, .i place] Q := by
 refine S58 (zka hid ?_)
 rw [zbk]
 refine cNe (fun h => absurd rfl h) fun _ => z1h ?_
 rw [zci, decide_eq_true (show place ≥ 1 from hp.1), decide_eq_true (show place ≤ 8 from hp.2)]
 simp only [Bool.and_self, z3s, cond_false]
 refine at_S ?_
 show PRun _ _ _ _ _
 refine of_B (x := vK id place) h hl ?_
 have hno : (zdx (vK id place) l).length ≤ l.length := by unfold zdx; rw [z2d]; exact z44 _ _
 show (∃ (I1 : Int → List (List U) → List Int → Prop) (f1 : Int → List (List U) → List Int → Nat), _)
 refine ⟨fun x l' a' => SufI (zdx (vK id place) l) (fun r => ∃ lt, lt.map eT = l' ∧ zgb lt = a' ∧ BInv lt ∧ lt.length ≤ l.length ∧ (∀ s ∈ r, s ∈ zdx (vK id place) l) ∧ (r.Pairwise fun a b => a.1 < b.1) ∧ ∀ k, zaq k lt = if zhj (vK id place) k ∧ ∀ s ∈ r, s.1 ≠ k.d then none else zaq k l) x, fun x _ _ => zmv (zdx (vK id place) l) x, .zero (by omega) ⟨l, rfl, rfl, h, z2r _, fun s hs => hs, z1b h.srt, fun k => ?_⟩, ?_⟩
 · split
   · rename_i hk
     cases hg : zaq k l with
     | none => rfl
     | some v =>
       have hm := zdd hg
       rw [inDv_iff.1 hk.1] at hm
       exact absurd rfl (hk.2 _ (lieL_of hm))
   · rfl
 rintro x _ _ ⟨r, s, lt, rfl, rfl, hi, hln, hsub, hpw, hget⟩
 cases r with
 | nil =>
   rw [s.d0, cond_false]
   have e : lt = rmv (vK id place) l := by
    refine Srt.ext hi.srt (h.srt.filter _) fun k => ?_
    rw [hget, zzn h.srt]
    simp
   rw [← e] at K
   exact K
 | cons q r =>
   simp only [s.d1, s.el, eS, ug0, ugs, zcs, cond_true]
   refine at_S ?_
   show PRun _ _ _ _ _
   have hq := hsub q z2p
   have hm := zvr hq
   have hk := h.key _ hm
   have hgq : zaq (bin (vK id place) q.1) lt = some q.2 := by
    rw [hget, if_neg]
    · exact zed h.srt hm
    · rintro ⟨-, hh⟩; exact hh q z2p rfl
   have hvq : zag (bin (vK id place) q.1) lt = q.2 := by unfold zag; rw [hgq]; rfl
   refine take_B (k := bin (vK id place) q.1) hi (by omega) (fun hb => ?_) (fun _ _ hb => ?_) fun _ _ hb => ?_
   · rcases hb with hb | hb
     · rw [hk.1] at hb; cases hb
     · have := hk.2; omega
   · omega
   · rw [hvq, show q.2 + -q.2 = 0 by omega]
     have e0 : zhx (bin (vK id place) q.1) 0 lt = zm0 (bin (vK id place) q.1) lt := by unfold zhx; rw [if_pos rfl]
     rw [e0]
     have hi2 : BInv (zm0 (bin (vK id place) q.1) lt) := by
      have := hi.set (k := bin (vK id place) q.1) (n := -q.2) hk.1 (by omega) (by have := hi.top q.1; have := hk.2; simp only; omega)
      rwa [hvq, show q.2 + -q.2 = 0 by omega, e0] at this
     have hpw2 := z3l.1 hpw
     refine s.step ⟨_, by first | trivial | rfl, by first | trivial | rfl, hi2, by have := zn2 (k := bin (vK id place) q.1) (l := lt); omega, fun t ht => hsub t (z2j _ ht), hpw2.2, fun k => ?_⟩
     rw [zn3 _ hi.srt, hget]
     by_cases ek : k = bin (vK id place) q.1
     · subst ek
       rw [if_pos rfl, if_pos]
       refine ⟨inDv_iff.2 rfl, fun t ht e => ?_⟩
       have := hpw2.1 t ht
       have e' : t.1 = q.1 := e
       omega
     · rw [if_neg ek]
       by_cases hc : zhj (vK id place) k = true ∧ ∀ t ∈ r, t.1 ≠ k.d
       · rw [if_pos hc, if_pos]
         refine ⟨hc.1, fun t ht => ?_⟩
         rcases z2e.1 ht with rfl | ht
         · exact fun e => ek (by rw [inDv_iff.1 hc.1, e])
         · exact hc.2 t ht
       · rw [if_neg hc, if_neg]
         exact fun h2 => hc ⟨h2.1, fun t ht => h2.2 t (z2j _ ht)⟩
end
section
set_option maxRecDepth 100000
theorem mixTn2 : Tryz.prog.follows .mixedOrders = true := by kernel_rfl
theorem S42 {b_0 : List (List U)} {b_1 : List Int} {from0_0 : Int} {from0_1 : Int} {from0_2 : Int} {from0_3 : Int} {what : Int} {id : Int} {l : List (List U)} {Q : V → Mem → Prop} (hh : PRun Tryz.prog 94 [] [.i what, .i id] (post [.I, .I] [] (fun x1 x2 => (bif x2 != 0 then Q (.i x2) [.c [.l 5 b_0, .n .i64 33 b_1]] else PRun Tryz.prog 52 [.c [.l 5 b_0, .n .i64 33 b_1]] [.r 0 0, .a [.i from0_0, .i from0_1, .i from0_2, .i from0_3], .l 2 l] (post [.I] [.c [.l 5, .n 33]] (fun x3 l1 a1 => (bif x3 != 0 then (okE (.i x3) (Q (.i x3) [.c [.l 5 l1, .n .i64 33 a1]])) ∨ (okE (.i x3) (Q (.i x3) [.c [.l 5 l1, .n .i64 33 a1]])) else PRun Tryz.prog 97 [] [.i x1, .i from0_2] (post [.agg [.i .i64, .i .i64, .i .i64, .i .i64]] [] (fun x4 x5 x6 x7 => (PRun Tryz.prog 53 [.c [.l 5 l1, .n .i64 33 a1]] [.r 0 0, .a [.i x4, .i x5, .i x6, .i x7], .l 2 l] (post [.I] [.c [.l 5, .n 33]] (fun x8 l2 a2 => ((okE (.i x8) (Q (.i x8) [.c [.l 5 l2, .n .i64 33 a2]])) ∨ (okE (.i x8) (Q (.i x8) [.c [.l 5 l2, .n .i64 33 a2]])) : Prop))) : Prop))) : Prop))) : Prop)))) : PRun Tryz.prog 42 [.c [.l 5 b_0, .n .i64 33 b_1]] [.r 0 0, .a [.i from0_0, .i from0_1, .i from0_2, .i from0_3], .i what, .i id, .l 2 l] Q :=
 zak mixTn2 Tryz.func42 (by kernel_rfl) (H := ⟨[], [], [96, 109], [], [], false, 64, KN.no, false, (zy7 whp)⟩) (n := 3) (by kernel_rfl) hh
end
section
set_option maxRecDepth 1000000
variable {Q : V → Mem → Prop}
def zd9 (x : K4) : List Stk → Tb → Tb
 | [], l => l
 | s :: r, l => zd9 x r (zhx (bin x s.1) (zag (bin x s.1) l + s.2) l)
def zee (d : Int) : List Stk → Int
 | [] => 0
 | s :: r => (if s.1 = d then s.2 else 0) + zee d r
theorem zjz {d : Int} : ∀ {L : List Stk}, (∀ s ∈ L, 0 ≤ s.2) → 0 ≤ zee d L
 | [], _ => z2v _
 | s :: r, h => by
   have h1 := h s z2p
   have h2 := zjz (d := d) (L := r) fun t ht => h t (z2j _ ht)
   simp only [zee]; split <;> omega
structure PutI (x : K4) (N : Nat) (g : Tb) (r : List Stk) (lt : Tb) : Prop where
 inv : BInv lt
 len : lt.length + r.length ≤ N
 ok : ∀ s ∈ r, 1 ≤ s.1 ∧ s.1 ≤ 32 ∧ 1 ≤ s.2
 top : ∀ d, tyQ d lt + zee d r ≤ 1125899906842624
 go : zd9 x r lt = g
theorem PutI.step {x : K4} {N : Nat} {g lt : Tb} {q : Stk} {r : List Stk} (h : PutI x N g (q :: r) lt) (hx : isB (bin x 1) = true) : PutI x N g r (zhx (bin x q.1) (zag (bin x q.1) lt + q.2) lt) := by
 have hq := h.ok q z2p
 have hb := zii hx ⟨hq.1, hq.2.1⟩
 have hr : ∀ s ∈ r, 0 ≤ s.2 := fun s hs => by have := h.ok s (z2j _ hs); omega
 have htop := h.top q.1
 simp only [zee, if_true] at htop
 have hnn := zjz (d := q.1) hr
 refine ⟨h.inv.set (n := q.2) hb (by have := (h.inv.val (bin x q.1)).1; omega) (by simp only; omega), ?_, fun s hs => h.ok s (z2j _ hs), fun d => ?_, h.go⟩
 · have := zpi (k := bin x q.1) (v := zag (bin x q.1) lt + q.2) (l := lt)
   have := h.len
   simp only [z2o] at this
   omega
 · have ht := h.top d
   simp only [zee] at ht
   unfold tyQ at ht ⊢
   rw [zev h.inv.srt]
   by_cases e : q.1 = d
   · rw [if_pos e] at ht
     simp only [bin, e, beq_self_eq_true, if_true]
     simp only [e] at *
     omega
   · rw [if_neg e] at ht
     have : ((bin x q.1).d == d) = false := by simpa [bin] using e
     rw [this]
     simp only [z3n, if_false]
     omega
theorem PutI.put {x : K4} {N : Nat} {g lt : Tb} {q : Stk} {r : List Stk} (h : PutI x N g (q :: r) lt) (hx : isB (bin x 1) = true) (hN : N ≤ 900000) (K : Q (.i 0) [bK (zhx (bin x q.1) (zag (bin x q.1) lt + q.2) lt)]) :
 PRun Tryz.prog 59 [bK lt] [.r 0 0, kV (bin x q.1), .i q.2] Q := by
 have hq := h.ok q z2p
 have hb := zii hx ⟨hq.1, hq.2.1⟩
 have hr : ∀ s ∈ r, 0 ≤ s.2 := fun s hs => by have := h.ok s (z2j _ hs); omega
 have htop := h.top q.1
 simp only [zee, if_true] at htop
 have hnn := zjz (d := q.1) hr
 have hl := h.len
 refine put_B h.inv (by omega) (fun hc => ?_) (fun _ _ hc => ?_) fun _ _ _ => K
 · rcases hc with hc | hc
   · rw [hb] at hc; cases hc
   · omega
 · simp only at hc; omega
theorem zmx {f : K4 → Bool} {p : K4 → Bool} : ∀ (l : Tb), zga f (l.filter fun r => p r.1) + zga f (l.filter fun r => !p r.1) = zga f l
 | [] => rfl
 | r :: l => by
   have ih := zmx (f := f) (p := p) l
   by_cases hp : p r.1
   · rw [z3m (p := fun r : K4 × Int => p r.1) hp, z3q (p := fun r : K4 × Int => !p r.1) (by simp [hp])]
     simp only [zga]; omega
   · rw [z3q (p := fun r : K4 × Int => p r.1) hp, z3m (p := fun r : K4 × Int => !p r.1) (by simp [hp])]
     simp only [zga]; omega
theorem zuv (d : Int) : ∀ l : Tb, zee d (l.map fun r => (r.1.d, r.2)) = tyQ d l
 | [] => rfl
 | r :: l => by
   have := zuv d l
   unfold tyQ at *
   simp only [z2s, zee, zga, this]
   by_cases e : r.1.d = d
   · rw [if_pos e, if_pos (by simpa using e)]
   · rw [if_neg e, if_neg (by simpa using e)]
theorem zyv (x : K4) (l : Tb) (d : Int) : tyQ d (rmv x l) + zee d (zdx x l) = tyQ d l := by
 unfold zdx
 rw [zuv]
 unfold tyQ rmv
 have := zmx (f := fun k => k.d == d) (p := zhj x) l
 omega
theorem zok {x to : K4} {l : Tb} (h : BInv l) : PutI to l.length (zd9 to (zdx x l) (rmv x l)) (zdx x l) (rmv x l) where
 inv := h.rmv x
 len := by
  unfold rmv zdx
  rw [z2d]
  have hl : ∀ m : Tb, (m.filter fun r => !zhj x r.1).length + (m.filter fun r => zhj x r.1).length ≤ m.length := by
   intro m
   induction m with
   | nil => exact z2r _
   | cons r m ih =>
     simp only [List.filter_cons, z2o]
     cases zhj x r.1 <;> simp <;> omega
  exact hl l
 ok s hs := by
  have hk := h.key _ (zvr hs)
  have hd := zxm hk.1
  exact ⟨hd.1, hd.2, hk.2⟩
 top d := by rw [zyv]; exact h.top d
 go := rfl
theorem zoj {x : K4} {N : Nat} {g : Tb} (hx : isB (bin x 1) = true) : ∀ {r : List Stk} {lt : Tb}, PutI x N g r lt → BInv g ∧ g.length ≤ N
 | [], lt, h => by
   have e : lt = g := h.go
   subst e
   exact ⟨h.inv, by have := h.len; simpa using this⟩
 | q :: r, lt, h => zoj hx (h.step hx)
theorem zz1 {l : Tb} {id place : Int} {to : K4} (h : BInv l) (hl : l.length ≤ 900000) (hid : 1 ≤ id ∧ id < 1048576) (hp : 1 ≤ place ∧ place ≤ 8) (hto : to.c = place) (hx : isB (bin to 1) = true)
 (K : Q (.i 0) [bK (zd9 to (zdx (vK id place) l) (rmv (vK id place) l))]) : PRun Tryz.prog 54 [bK l] [.r 0 0, .i 2, .i id, .i place, kV to] Q := by
 refine S54 (cNe (fun hc => absurd hto hc) fun _ => ?_)
 refine put_B (k := bin to 1) h (by omega) (fun hb => ?_) (fun _ _ hb => ?_) fun _ _ _ => ?_
 · rcases hb with hb | hb
   · rw [hx] at hb; cases hb
   · omega
 · have := h.top (bin to 1).d; omega
 show (bif ((0 : Int) != 0) then Q (.i 1) [bK l] else PRun _ _ _ _ _ : Prop)
 refine cNe (fun h => absurd rfl h) fun _ => zr2 h hl hid hp ?_
 have P0 := zok (x := vK id place) (to := to) h
 have hno : (zdx (vK id place) l).length ≤ l.length := by unfold zdx; rw [z2d]; exact z44 _ _
 show (∃ (I1 : Int → List (List U) → List Int → Int → Int → Int → Int → Prop) (f1 : Int → List (List U) → List Int → Int → Int → Int → Int → Nat), _)
 refine ⟨fun x l' a' x4 x5 x6 x7 => SufI (zdx (vK id place) l) (fun r => ∃ lt, lt.map eT = l' ∧ zgb lt = a' ∧ to.a = x4 ∧ to.b = x5 ∧ to.c = x6 ∧ PutI to l.length (zd9 to (zdx (vK id place) l) (rmv (vK id place) l)) r lt) x, fun x _ _ _ _ _ _ => zmv (zdx (vK id place) l) x, .zero (by omega) ⟨_, rfl, rfl, rfl, rfl, rfl, P0⟩, ?_⟩
 rintro x _ _ _ _ _ x7 ⟨r, s, lt, rfl, rfl, rfl, rfl, rfl, hP⟩
 cases r with
 | nil =>
   rw [s.d0, cond_false]
   have e : lt = zd9 to (zdx (vK id place) l) (rmv (vK id place) l) := hP.go
   rw [← e] at K
   exact K
 | cons q r =>
   simp only [s.d1, s.el, eS, ug0, ugs, zcs, cond_true]
   exact hP.put hx (by omega) (s.step ⟨_, by first | trivial | rfl, by first | trivial | rfl, by first | trivial | rfl, by first | trivial | rfl, by first | trivial | rfl, hP.step hx⟩)
theorem zey {x : K4} : ∀ {L : List Stk} {l : Tb}, Srt l → (L.Pairwise fun a b => a.1 < b.1) → (∀ s ∈ L, s.2 ≤ zag (bin x s.1) l) → ∃ l', zct x L l = some l' ∧ (∀ k, zag k l' = if zhj x k then zag k l - zee k.d L else zag k l) ∧ ∀ d, tyQ d l' = tyQ d l - zee d L
 | [], l, _, _, _ => ⟨l, rfl, fun k => by simp [zee], fun d => by simp [zee]⟩
 | q :: r, l, hs, hpw, h => by
   have hq := h q z2p
   have hpw2 := z3l.1 hpw
   obtain ⟨l', h1, h2, h3⟩ := zey (x := x) (L := r) (l := zhx (bin x q.1) (zag (bin x q.1) l + -q.2) l) (zjn hs) hpw2.2 fun s hs' => by
    rw [zph _ hs, if_neg fun e => ?_]
    · exact h s (z2j _ hs')
    · have := hpw2.1 s hs'
      have e' : s.1 = q.1 := congrArg K4.d e
      omega
   refine ⟨l', by simp only [zct]; rw [if_pos hq]; exact h1, fun k => ?_, fun d => ?_⟩
   · rw [h2, zph _ hs]
     simp only [zee]
     by_cases hk : zhj x k = true
     · rw [if_pos hk, if_pos hk]
       by_cases e : q.1 = k.d
       · rw [if_pos e, if_pos (by rw [inDv_iff.1 hk, e]), inDv_iff.1 hk, e]; simp only [bin]; omega
       · rw [if_neg e, if_neg (fun e2 => e (by rw [e2])), z5j]
     · rw [if_neg hk, if_neg hk, if_neg (fun e => hk (by rw [e]; exact inDv_iff.2 rfl))]
   · rw [h3]
     simp only [zee]
     unfold tyQ
     rw [zev hs]
     by_cases e : q.1 = d
     · rw [if_pos e, if_pos (by simpa [bin] using e)]; omega
     · rw [if_neg e, if_neg (by simpa [bin] using e)]; omega
theorem zog {x : K4} : ∀ {L : List Stk} {l : Tb}, BInv l → isB (bin x 1) = true → (∀ s ∈ L, 1 ≤ s.1 ∧ s.1 ≤ 32 ∧ 1 ≤ s.2) → (∀ d, tyQ d l + zee d L ≤ 1125899906842624) → zmb x L l = some (zd9 x L l)
 | [], l, _, _, _, _ => rfl
 | q :: r, l, hi, hx, hok, h => by
   have P0 : PutI x (l.length + (q :: r).length) (zd9 x (q :: r) l) (q :: r) l := ⟨hi, z2r _, hok, h, rfl⟩
   have P1 := P0.step hx
   simp only [zmb]
   have hq := h q.1
   simp only [zee, if_true] at hq
   have hnn := zjz (d := q.1) (L := r) fun s hs => by have := hok s (z2j _ hs); omega
   rw [if_pos (by omega)]
   exact zog P1.inv hx P1.ok P1.top
theorem zfk {L : List Stk} {types : Int} (h : zhv L types = 0) : L.Pairwise fun a b => a.1 < b.1 := by
 have h1 : zwh types 0 L = true := by
  unfold zhv at h
  split at h
  · rename_i hh; exact hh.1
  · cases h
 have : ∀ (l : List Stk) (last : Int), zwh types last l = true → (∀ s ∈ l, last < s.1) ∧ l.Pairwise fun a b => a.1 < b.1 := by
  intro l
  induction l with
  | nil => intro _ _; exact ⟨fun s hs => by simp at hs, .nil⟩
  | cons a l ih =>
    intro last hc
    simp only [zwh, z17, decide_eq_true_eq] at hc
    obtain ⟨i1, i2⟩ := ih a.1 hc.2
    refine ⟨fun s hs => ?_, z3l.2 ⟨i1, i2⟩⟩
    rcases z2e.1 hs with rfl | hs
    · omega
    · have := i1 s hs; omega
 exact (this L 0 h1).2
theorem zbx {F : Int → List (List U) → List Int → Prop} {e : Int} {r : List (List U)} {a : List Int} : post [.I] [.c [.l 5, .n 33]] F (.i e) [.c [.l 5 r, .n .i64 33 a]] = F e r a := rfl
theorem lock_B {l : Tb} {id : Int} {fr : K4} {L : List Stk} (h : BInv l) (hl : l.length ≤ 800000) (hid : 1 ≤ id ∧ id < 1048576) (hL : L.length ≤ 1000) (hx : isB (bin fr 1) = true) (hc : zhv L 32 = 0) (hlie : ∀ s ∈ L, s.2 ≤ zag (bin fr s.1) l)
 (K : ∀ l1, zct fr L l = some l1 → BInv l1 → BInv (zd9 (vK id fr.c) L l1) → (zd9 (vK id fr.c) L l1).length ≤ l.length + 2 * L.length → Q (.i 0) [bK (zd9 (vK id fr.c) L l1)]) : PRun Tryz.prog 42 [bK l] [.r 0 0, kV fr, .i 2, .i id, .l 2 (L.map eS)] Q := by
 obtain ⟨l1, ht, hval, hty⟩ := zey h.srt (zfk hc) hlie
 have hm := zhu hc
 refine S42 (zka hid ?_)
 rw [zbk]
 refine cNe (fun h => absurd rfl h) fun _ => zqf h (by omega) hL (fun hb => ?_) (fun _ _ hb => ?_) fun l' _ _ hb hi hln => ?_
 · rcases hb with hb | hb
   · rw [hx] at hb; cases hb
   · exact absurd hc hb
 · rw [ht] at hb; cases hb
 rw [ht] at hb
 cases hb
 rw [zbx]
 refine cNe (fun h => absurd rfl h) fun _ => at_S ?_
 show PRun _ _ _ _ _
 have hxv : isB (bin (vK id fr.c) 1) = true := by
  simp only [isB, z17, decide_eq_true_eq] at hx ⊢
  unfold vO
  omega
 have hput := zog (x := vK id fr.c) (L := L) hi hxv (fun s hs => by have := hm s hs; omega) fun d => by rw [hty]; have := h.top d; omega
 refine zu8 (x := vK id fr.c) hi (by omega) hL (fun hb => ?_) (fun _ _ hb => ?_) fun l2 _ _ hb hi2 hln2 => ?_
 · rcases hb with hb | hb
   · rw [hxv] at hb; cases hb
   · exact absurd hc hb
 · rw [hput] at hb; cases hb
 rw [hput] at hb
 cases hb
 rw [zbx]
 exact .inl (K l1 ht hi hi2 (by omega))
end
section
variable {P : Program} {D D' : Fz} {ρ ρ' : List Loc} {m m' : Mem} {chs C : List zab} {h h' : zac} {ro hr : List Nat}
def zqw : Mem → List Nat → List AB → Mem
 | m, j :: js, a :: al => zqw (ms m j a) js al
 | m, _, _ => m
theorem zqv : ∀ (js : List Nat) (al : List AB) (m : Mem), (zqw m js al).length = m.length
 | [], al, m => by cases al <;> rfl
 | j :: js, [], m => rfl
 | j :: js, a :: al, m => by simp only [zqw]; rw [zqv js al, zb4]
theorem z0e : ∀ {js : List Nat} {al : List AB} {cs : List zab} {m : Mem} {c : List zab}, js.length = al.length → cs.length = al.length → SAt D ρ m c (cs ++ C) h → js.Nodup →
 (∀ (i j : Nat) (a : AB) (ch : zab), js[i]? = some j → al[i]? = some a → cs[i]? = some ch → j < m.length ∧ ∃ L, ρ[j]? = some L ∧ Ent D ρ L a ch) →
 ∃ c', SAt D ρ (zqw m js al) c' C h ∧ ∀ b, b ∉ js → c'[b]? = c[b]? ∧ mg (zqw m js al) b = mg m b
 | [], [], cs, m, c, h1, h2, M, hn, he => by
   have : cs = [] := z3w (by simpa using h2)
   subst this
   exact ⟨c, M, fun b _ => ⟨rfl, rfl⟩⟩
 | j :: js, a :: al, ch :: cs, m, c, h1, h2, M, hn, he => by
   obtain ⟨hj, L, hL, hE⟩ := he 0 j a ch rfl rfl rfl
   have M2 : SAt D ρ (ms m j a) (c.set j ch) (cs ++ C) h := M.over hj hL hE
   have hn2 := z4d.1 hn
   obtain ⟨c', M3, g⟩ := z0e (js := js) (al := al) (cs := cs) (by simpa using h1) (by simpa using h2) M2 hn2.2 fun i j' a' ch' q1 q2 q3 => by
    obtain ⟨w1, w2⟩ := he (i + 1) j' a' ch' (by simpa using q1) (by simpa using q2) (by simpa using q3)
    exact ⟨by rw [zb4]; exact w1, w2⟩
   refine ⟨c', M3, fun b hb => ?_⟩
   simp only [z2e, not_or] at hb
   obtain ⟨g1, g2⟩ := g b hb.2
   refine ⟨by rw [g1, z23 (Ne.symm hb.1)], ?_⟩
   simp only [zqw]
   rw [g2, zbh (Ne.symm hb.1)]
 | [], _ :: _, _, _, _, h1, _, _, _, _ => by simp at h1
 | _ :: _, [], _, _, _, h1, _, _, _, _ => by simp at h1
 | _ :: _, _ :: _, [], _, _, _, h2, _, _, _ => by simp at h2
def fK (ix : List Nat) (n i : Nat) : Nat := cond (z19 (i + 1) ix.length) (zw7 ix i) (n + (i - ix.length))
def zuc (m : Mem) (ix : List Nat) (M' : Mem) : Mem :=
 zqw (zcw m ix ++ z2g (M'.length - ix.length) .x) (ix ++ List.range' m.length (M'.length - ix.length)) (M'.map (zob (fK ix m.length)))
theorem fK_lt {ix : List Nat} {n i b : Nat} (h : ix[i]? = some b) : fK ix n i = b := by
 have : i < ix.length := by
  rcases z3z i ix.length with h1 | h1
  · exact h1
  · rw [z3u h1] at h; cases h
 unfold fK
 rw [z32 this, cond_true]
 exact zot h
theorem fK_ge {ix : List Nat} {n k : Nat} : fK ix n (ix.length + k) = n + k := by
 unfold fK
 have : z19 (ix.length + k + 1) ix.length = false := by
  cases e : z19 (ix.length + k + 1) ix.length with
  | false => rfl
  | true => have := z2w e; omega
 rw [this, cond_false]; omega
def KnP (P : Program) (ro : List Nat) (g : FuncId) (args : List V) (m : Mem) (K : V → Mem → Prop) : Prop :=
 ∃ (ix : List Nat) (R : V) (M' : Mem), ix.Nodup ∧ (∀ b ∈ ix, b < m.length ∧ b ∉ ro) ∧ (∀ b ∈ ix, ∀ c ∈ za5 (mg m b), c ∈ ix) ∧ (∀ b ∈ zam args, b ∈ ix) ∧
   PRun P g (zm2 m ix) (zd8 (fun b => zh9 ix b 0) args) (fun x m' => x = R ∧ m' = M') ∧ K (zcf (fK ix m.length) R) (zuc m ix M')
theorem xs_S : ∀ (k : Nat) {ρ : List Loc} {m : Mem} {chs C : List zab} {s : List Loc}, SAt D ρ m chs C h → s.length = k → SAt D (ρ ++ s) (m ++ z2g k .x) (chs ++ z2g k []) C h
 | 0, ρ, m, chs, C, s, M, hs => by
   have : s = [] := z3w hs
   subst this
   simpa using M
 | k + 1, ρ, m, chs, C, [], M, hs => by simp at hs
 | k + 1, ρ, m, chs, C, L :: s, M, hs => by
   have M1 : SAt D (ρ ++ [L]) (m ++ [.x]) (chs ++ [[]]) C h := SAt.push (ch := []) ⟨M.len, M.lch, M.ent, by
    have := M.st
    refine this.perm ?_
    simp⟩ .x
   have := xs_S k (s := s) M1 (by simpa using hs)
   simpa [z2m, z4j] using this
theorem zig {X : Fz → List Loc → Prop} {g : FuncId} {args : List V} {KS : V → Mem → Prop} (hs : KnP P (hr ++ ro) g args m KS) {vs : List Value} (M : SAt D ρ m chs C h) (ha : RpL D ρ vs args) : Run P g vs h (zc5 ro hr D ρ m chs C KS) := by
 obtain ⟨ix, R, M', hnd, hb, hcl, har, hrun, hK⟩ := hs
 obtain ⟨c', cs, hcs, Mk, gk, Ms⟩ := M.sub2 hnd (fun b h => (hb b h).1) hcl
 have ra' := (ren_all (D := D) (ρ := ρ) (f := fun b => zh9 ix b 0) (ρ' := ix.map fun b => (ρ[b]?).getD ⟨0, none, 0, 0, none⟩)).2.1 ha fun b hb L hL => by
  obtain ⟨k, h4, h5⟩ := zfu (k := 0) (har b hb)
  rw [h4, z2l, z2i, h5, z3h, hL]; rfl
 refine (hrun D _ cs (c' ++ C) h vs Ms ra').mono ?_
 rintro v h' ⟨D2, s, cs2, x, m', le, Ms2, hv, rfl, rfl⟩
 -- al many blocks al places
 have l1 := Ms2.len
 have l2 := Ms2.lch
 simp only [z2z, z2d] at l1
 have hk : m'.length - ix.length = s.length := by omega
 have Mk2 : SAt D2 ρ (zcw m ix) c' (cs2 ++ C) h' := ⟨Mk.len, Mk.lch, fun i L ab ch q1 q2 q3 => by have := (Mk.ent i L ab ch q1 q2 q3).mono le (s := []); rwa [z3a] at this, Ms2.st.perm (by
  simp only [z21]
  exact z3g _ _ _)⟩
 have Mx := xs_S (m'.length - ix.length) (s := s) Mk2 hk.symm
 have lm : (zcw m ix).length = m.length := zhi _ _
 have fin : ∀ {i : Nat} {L : Loc}, ((ix.map fun b => (ρ[b]?).getD ⟨0, none, 0, 0, none⟩) ++ s)[i]? = some L → (ρ ++ s)[fK ix m.length i]? = some L := by
  intro i L hL
  rcases z3z i ix.length with hi | hi
  · have e := z2c hi
    rw [z2k (by simpa using hi), z2i, e, z3h] at hL
    rw [fK_lt e]
    have hlt : ix[i] < ρ.length := by rw [M.len]; exact (hb _ (z4y hi)).1
    rw [z2k hlt, z2c hlt]
    rw [z2c hlt, z3b] at hL
    exact hL
  · obtain ⟨k, rfl⟩ := z62 hi
    rw [z2t (by simp)] at hL
    rw [fK_ge, z2t (by rw [M.len]; omega)]
    have e1 : m.length + k - ρ.length = k := by rw [M.len]; omega
    have e2 : ix.length + k - (ix.map fun b => (ρ[b]?).getD ⟨0, none, 0, 0, none⟩).length = k := by simp
    rw [e2] at hL
    rw [e1]; exact hL
 have hjs : ∀ (i j : Nat), (ix ++ List.range' m.length (m'.length - ix.length))[i]? = some j → i < m'.length ∧ j = fK ix m.length i ∧ j < m.length + (m'.length - ix.length) := by
  intro i j hj
  rcases z3z i ix.length with hi | hi
  · rw [z2k hi] at hj
    exact ⟨by omega, (fK_lt hj).symm, by have := (hb j (z2y hj)).1; omega⟩
  · obtain ⟨k, rfl⟩ := z62 hi
    rw [z2t (by omega)] at hj
    have hk2 : ix.length + k - ix.length < m'.length - ix.length := by
     rcases z3z (ix.length + k - ix.length) (m'.length - ix.length) with q | q
     · exact q
     · rw [z3u (by simpa using q)] at hj; cases hj
    rw [List.getElem?_range' hk2] at hj
    simp only [Option.some.injEq] at hj
    rw [fK_ge]
    omega
 obtain ⟨c2, M3, g3⟩ := z0e (js := ix ++ List.range' m.length (m'.length - ix.length)) (al := m'.map (zob (fK ix m.length))) (cs := cs2) (by simp; omega) (by simp [l2]) Mx (by
  refine z4u.2 ⟨hnd, List.nodup_range', ?_⟩
  intro a ha b hb2 e
  subst e
  have := (hb a ha).1
  have := List.mem_range'_1.1 hb2
  omega) fun i j a ch q1 q2 q3 => by
  obtain ⟨hi, rfl, hlt⟩ := hjs i j q1
  refine ⟨by simp only [z2z, List.length_replicate, lm]; exact hlt, ?_⟩
  simp only [z2i] at q2
  obtain ⟨a0, ha0, rfl⟩ := z3k.1 q2
  have hiL : i < ((ix.map fun b => (ρ[b]?).getD ⟨0, none, 0, 0, none⟩) ++ s).length := by simp; omega
  have e := z2c hiL
  exact ⟨_, fin e, (Ms2.ent i _ a0 ch e ha0 q3).ren fun b _ L hL => fin hL⟩
 have hv3 := (ren_all (D := D2) (f := fK ix m.length) (ρ' := ρ ++ s)).1 hv fun b _ L hL => fin hL
 refine ⟨D2, ρ ++ s, _, c2, _, ⟨le, ⟨s, rfl⟩, fun b h1 h2 => ?_, fun b h1 h2 => ?_, ?_⟩, M3, hv3, hK⟩
 · have hni : b ∉ ix := fun hbi => (hb b hbi).2 (z2f.2 (.inl (inL_iff.1 h1)))
   have hnj : b ∉ ix ++ List.range' m.length (m'.length - ix.length) := by
    intro hh
    rcases z2f.1 hh with q | q
    · exact hni q
    · have := List.mem_range'_1.1 q; omega
   rw [(g3 b hnj).1, z2k (by rw [Mk.lch, lm]; exact h2), (gk b hni).1]
 · have hni : b ∉ ix := fun hbi => (hb b hbi).2 (inL_iff.1 h1)
   have hnj : b ∉ ix ++ List.range' m.length (m'.length - ix.length) := by
    intro hh
    rcases z2f.1 hh with q | q
    · exact hni q
    · have := List.mem_range'_1.1 q; omega
   have := (g3 b hnj).2
   show mg (zqw _ _ _) b = _
   rw [this, zni (by rw [lm]; exact h2), (gk b hni).2]
 · rw [zqv]
   simp only [z2z, lm]; omega
variable {E : SPE P} {inl : List Nat} {nl n fi : Nat}
end
section
variable {P : Program} {E S : SPE P} {inl Gs : List Nat} {nl n fi : Nat}
end
section
variable {P : Program} {E S : SPE P} {inl Gs : List Nat} {nl n fi : Nat}
end
section
variable {P : Program} {E S : SPE P} {inl Gs : List Nat} {nl n fi : Nat}
end
section
variable {P : Program} {g : FuncId} {m : Mem} {args : List V}
end
section
set_option maxRecDepth 1000000
section
variable {P : Program} {g : FuncId} {args : List V} {m0 : Mem}
theorem PRun.view {E sz n : Nat} {rows : List (List U)} {T : Mem} (hh : PRun P g m0 args fun x m => x = .v 0 sz 0 n false ∧ m = .w E sz rows :: T) : PRun P g m0 args fun x m => x = .u (.l sz (rows.take n)) ∧ m = .x :: T := by
 intro D ρ chs C h vs M F
 refine (hh D ρ chs C h vs M F).mono ?_
 rintro v h' ⟨D', s, chs', x, m', le, M', hv, rfl, rfl⟩
 obtain ⟨L, a, cap, g1, g2, g3, g4, g5, g6, g7, rfl⟩ := hv.v_inv
 obtain ⟨L', ch, k1, k2, k3⟩ := M'.get (b := 0) (by show mg (.w E sz rows :: T) 0 ≠ .x; exact fun e => by cases e)
 have k3 : Ent D' (ρ ++ s) L' (.w E sz rows) ch := k3
 rw [g1] at k1
 cases k1
 cases k3 with
 | w o hn =>
   obtain ⟨D2, le2, S2, hR⟩ := o.freeze (M'.front k2)
   have M2 : SAt D2 (ρ ++ s) (ms (.w E sz rows :: T) 0 .x) (chs'.set 0 []) C h' := M'.put g1 k2 S2.nil le2 .x
   have ea := g3 rfl
   have ec := g7 rfl rfl
   subst ea ec
   have hp := hR.part (z3j n) (by omega)
   rw [z38] at hp
   exact ⟨D2, s, _, _, _, le.trans le2, M2, .u hp, rfl, rfl⟩
end
abbrev nzP (l : List Pm) : List Pm := l.filter fun x => x.2.2 != 0
abbrev delG : FuncId := 154
abbrev delC : V := .f 155 [] []
abbrev zv7 : Nat := 234
section
variable {a b a' b' : Int} {k j : Nat}
theorem dW0 : PRun Tryz.prog delG [.w zv7 3 []] [.w 0, delC] fun x m => x = .l 3 [] ∧ m = [.x] :=
 zgn zf4 (zal whp) (inl := z2b 600) (nl := 300) (n := 60) Tryz.func154 (by kernel_rfl) (r := (.l 3 [], [.x])) (by kernel_rfl)
theorem dW1 : PRun Tryz.prog delG [.w zv7 3 [[.n a, .n b, .n (Int.ofNat k.succ)]]] [.w 0, delC] fun x m => x = .l 3 [[.n a, .n b, .n (Int.ofNat k.succ)]] ∧ m = [.x] :=
 zgn zf4 (zal whp) (inl := z2b 600) (nl := 300) (n := 60) Tryz.func154 (by kernel_rfl) (r := (.l 3 [[.n a, .n b, .n (Int.ofNat k.succ)]], [.x])) (by kernel_rfl)
theorem dZ1 : PRun Tryz.prog delG [.w zv7 3 [[.n a, .n b, .n 0]]] [.w 0, delC] fun x m => x = .l 3 (([[.n 0, .n 0, .n 0]] : List (List U)).take 0) ∧ m = [.x] :=
 PRun.view (zgn zf4 (zal whp) (inl := z2b 600) (nl := 300) (n := 60) Tryz.func154 (by kernel_rfl) (r := (.v 0 3 0 0 false, [.w zv7 3 [[.n 0, .n 0, .n 0]]])) (by kernel_rfl))
theorem dW2 : PRun Tryz.prog delG [.w zv7 3 [[.n a, .n b, .n (Int.ofNat k.succ)], [.n a', .n b', .n (Int.ofNat j.succ)]]] [.w 0, delC] fun x m => x = .l 3 [[.n a, .n b, .n (Int.ofNat k.succ)], [.n a', .n b', .n (Int.ofNat j.succ)]] ∧ m = [.x] :=
 zgn zf4 (zal whp) (inl := z2b 600) (nl := 300) (n := 60) Tryz.func154 (by kernel_rfl) (r := (.l 3 [[.n a, .n b, .n (Int.ofNat k.succ)], [.n a', .n b', .n (Int.ofNat j.succ)]], [.x])) (by kernel_rfl)
theorem dWZ : PRun Tryz.prog delG [.w zv7 3 [[.n a, .n b, .n (Int.ofNat k.succ)], [.n a', .n b', .n 0]]] [.w 0, delC] fun x m => x = .l 3 (([[.n a, .n b, .n (Int.ofNat k.succ)], [.n 0, .n 0, .n 0]] : List (List U)).take 1) ∧ m = [.x] :=
 PRun.view (zgn zf4 (zal whp) (inl := z2b 600) (nl := 300) (n := 60) Tryz.func154 (by kernel_rfl) (r := (.v 0 3 0 1 false, [.w zv7 3 [[.n a, .n b, .n (Int.ofNat k.succ)], [.n 0, .n 0, .n 0]]])) (by kernel_rfl))
theorem dZW : PRun Tryz.prog delG [.w zv7 3 [[.n a, .n b, .n 0], [.n a', .n b', .n (Int.ofNat j.succ)]]] [.w 0, delC] fun x m => x = .l 3 (([[.n a', .n b', .n (Int.ofNat j.succ)], [.n 0, .n 0, .n 0]] : List (List U)).take 1) ∧ m = [.x] :=
 PRun.view (zgn zf4 (zal whp) (inl := z2b 600) (nl := 300) (n := 60) Tryz.func154 (by kernel_rfl) (r := (.v 0 3 0 1 false, [.w zv7 3 [[.n a', .n b', .n (Int.ofNat j.succ)], [.n 0, .n 0, .n 0]]])) (by kernel_rfl))
theorem dZZ : PRun Tryz.prog delG [.w zv7 3 [[.n a, .n b, .n 0], [.n a', .n b', .n 0]]] [.w 0, delC] fun x m => x = .l 3 (([[.n 0, .n 0, .n 0], [.n 0, .n 0, .n 0]] : List (List U)).take 0) ∧ m = [.x] :=
 PRun.view (zgn zf4 (zal whp) (inl := z2b 600) (nl := 300) (n := 60) Tryz.func154 (by kernel_rfl) (r := (.v 0 3 0 0 false, [.w zv7 3 [[.n 0, .n 0, .n 0], [.n 0, .n 0, .n 0]]])) (by kernel_rfl))
end
theorem z0a {n : Int} (h : 0 ≤ n) : n = 0 ∨ ∃ k : Nat, n = Int.ofNat k.succ := by
 obtain ⟨k, rfl⟩ := z4e h
 cases k with
 | zero => exact .inl rfl
 | succ k => exact .inr ⟨k, rfl⟩
theorem ofN_ne (k : Nat) : ((Int.ofNat k.succ) != 0) = true := by
 simp only [bne_iff_ne, ne_eq, z4q]; omega
theorem ztn {a b : Int} {l : List Pm} : nzP ((a, b, 0) :: l) = nzP l := z3q (by simp)
theorem z0n {a b : Int} {k : Nat} {l : List Pm} : nzP ((a, b, Int.ofNat k.succ) :: l) = (a, b, Int.ofNat k.succ) :: nzP l := z3m (by exact ofN_ne k)
theorem delW_S {l : List Pm} (hl : l.length ≤ 2) (hn : ∀ x ∈ l, 0 ≤ x.2.2) : PRun Tryz.prog delG [.w zv7 3 (l.map eP)] [.w 0, delC] fun x m => x = .l 3 ((nzP l).map eP) ∧ m = [.x] := by
 match l, hl, hn with
 | [], _, _ => exact dW0
 | [(a, b, n)], _, hn =>
   rcases z0a (hn (a, b, n) (by simp)) with e | ⟨k, e⟩
   · simp only at e; subst e; rw [ztn]; exact dZ1
   · simp only at e; subst e; rw [z0n]; exact dW1
 | [(a, b, n), (a', b', n')], _, hn =>
   rcases z0a (hn (a, b, n) (by simp)) with e | ⟨k, e⟩ <;> rcases z0a (hn (a', b', n') (by simp)) with e' | ⟨j, e'⟩
   · simp only at e e'; subst e e'; rw [ztn, ztn]; exact dZZ
   · simp only at e e'; subst e e'; rw [ztn, z0n]; exact dZW
   · simp only at e e'; subst e e'; rw [z0n, ztn]; exact dWZ
   · simp only at e e'; subst e e'; rw [z0n, z0n]; exact dW2
 | _ :: _ :: _ :: _, hl, _ => simp at hl
theorem del0 : PRun Tryz.prog delG [] [.nl 3, delC] fun x m => x = .l 3 [] ∧ m = [] :=
 zgn zf4 (zal whp) (inl := z2b 600) (nl := 300) (n := 60) Tryz.func154 (by kernel_rfl) (r := (.l 3 [], [])) (by kernel_rfl)
def delF (ro : List Nat) (g : FuncId) (args : List V) (m : Mem) (K : V → Mem → Prop) : Option Prop :=
 cond (z14 g delG) (match args with
  | [.nl 3, .f G [] []] => some (G = 155 ∧ K (.l 3 []) (zuc m [] []))
  | [.w b, .f G [] []] => cond (!inL ro b && z19 (b + 1) m.length) (some (∃ l : List Pm, G = 155 ∧ mg m b = .w zv7 3 (l.map eP) ∧ l.length ≤ 2 ∧ (∀ x ∈ l, 0 ≤ x.2.2) ∧ K (.l 3 ((nzP l).map eP)) (zuc m [b] [.x]))) (some False)
  | _ => some False) none
def spDel : SP Tryz.prog where
 f ro _ g args m K := delF ro g args m K
 ok := by
  intro ro hr X call hX hcall g args m KS p hs hp D ρ chs C h vs xx M ha
  unfold delF at hs
  cases hg : z14 g delG with
  | false => rw [hg] at hs; cases hs
  | true =>
    rw [hg] at hs
    have := z18 hg
    subst this
    simp only [cond_true] at hs
    split at hs
    · cases hs
      obtain ⟨rfl, hK⟩ := hp
      exact zig (X := X) ⟨[], .l 3 [], [], by simp, fun b hb => by simp at hb, fun b hb => by simp at hb, fun b hb => by simp [zam, zae] at hb, del0, hK⟩ M ha
    · rename_i b G
      cases hc : (!inL (hr ++ ro) b && z19 (b + 1) m.length) with
      | false => rw [hc] at hs; cases hs; exact hp.elim
      | true =>
        rw [hc] at hs
        cases hs
        simp only [z17, z2u] at hc
        obtain ⟨l, rfl, hm, h1, h2, hK⟩ := hp
        refine zig (X := X) ⟨[b], .l 3 ((nzP l).map eP), [.x], by simp, fun c hb => ?_, fun c hb d hd => ?_, fun c hb => ?_, ?_, hK⟩ M ha
        · have := z3v.1 hb
          subst this
          exact ⟨z2w hc.2, fun hh => by rw [inL_iff.2 hh] at hc; cases hc.1⟩
        · have := z3v.1 hb
          subst this
          rw [hm] at hd
          simp [za5] at hd
        · simp [zam, zae] at hb ⊢
          exact hb
        · have e : zm2 m [b] = [.w zv7 3 (l.map eP)] := by
           show [zob _ (mg m b)] = _
           rw [hm]; rfl
          have e2 : zd8 (fun c => zh9 [b] c 0) [V.w b, .f 155 [] []] = [.w 0, delC] := by
           show [V.w (zh9 [b] b 0), _] = _
           have : zh9 [b] b 0 = 0 := by
            show cond (z14 b b) 0 _ = 0
            rw [Nat.beq_refl]; rfl
           rw [this]; rfl
          rw [e, e2]
          exact delW_S h1 h2
    · cases hs; exact hp.elim
end
section
set_option maxRecDepth 100000
theorem zxe : Tryz.prog.follows .mixedOrders = true := by kernel_rfl
theorem S115 {d_0 : Int} {d_1 : Int} {d_2 : Int} {d_3 : Int} {d_4 : Int} {d_5 : Int} {d_6 : Int} {d_7 : Int} {d_8 : Int} {d_9 : Int} {d_10 : Int} {d_11 : Int} {d_12 : Int} {d_13 : List (List U)} {d_14 : List (List U)} {d_15 : Int} {d_16 : Int} {d_17 : Int} {d_18 : Int} {state : Int} {Q : V → Mem → Prop} (hh : ∀ k1 : Bool → Prop, (∀ b1 : Bool, ((bif b1 then Q (.u (.b true)) [] else (bif eqI [d_15, state] [1, 5] then Q (.u (.b (d_5 != 0))) [] else Q (.u (.b false)) []))) → k1 b1) → (bif eqI [d_15, state] [2, 3] then k1 (eqI [d_15, state] [2, 3]) else (bif eqI [d_15, state] [2, 4] then k1 (eqI [d_15, state] [2, 4]) else (bif eqI [d_15, state] [1, 6] then k1 (eqI [d_15, state] [1, 6]) else k1 (eqI [d_15, state] [1, 7]))))) : PRun Tryz.prog 115 [] [aDx d_0 d_1 d_2 d_3 d_4 d_5 d_6 d_7 d_8 d_9 d_10 d_11 d_12 d_13 d_14 d_15 d_16 d_17 d_18, .i state] Q :=
 zak zxe Tryz.func115 (by kernel_rfl) (H := ⟨[], [((115, 6, 1), ⟨[(9, .B)], []⟩)], [], [], [], false, 64, KN.no, false, SP.no⟩) (n := 2) (by kernel_rfl) hh
theorem S57 {d_0 : Int} {d_1 : Int} {d_2 : Int} {d_3 : Int} {d_4 : Int} {d_5 : Int} {d_6 : Int} {d_7 : Int} {d_8 : Int} {d_9 : Int} {d_10 : Int} {d_11 : Int} {d_12 : Int} {d_13 : List (List U)} {d_14 : List (List U)} {d_15 : Int} {d_16 : Int} {d_17 : Int} {d_18 : Int} {state : Int} {Q : V → Mem → Prop} (hh : PRun Tryz.prog 74 [] [aDx d_0 d_1 d_2 d_3 d_4 d_5 d_6 d_7 d_8 d_9 d_10 d_11 d_12 d_13 d_14 d_15 d_16 d_17 d_18] (post [.I] [] (fun x1 => (bif x1 != 0 then Q (.t [.a [.i 0, .i 0, .i 0, .i 0, .i 0, .i 0, .i 0, .i 0, .i 0, .i 0, .i 0, .i 0, .i 0, .l 2 [], .l 2 [], .i 0, .i 0, .i 0, .i 0], .i 1]) [] else PRun Tryz.prog 115 [] [aDx d_0 d_1 d_2 d_3 d_4 d_5 d_6 d_7 d_8 d_9 d_10 d_11 d_12 d_13 d_14 d_15 d_16 d_17 d_18, .i state] (post [.B] [] (fun b1 => (bif !b1 then Q (.t [.a [.i 0, .i 0, .i 0, .i 0, .i 0, .i 0, .i 0, .i 0, .i 0, .i 0, .i 0, .i 0, .i 0, .l 2 [], .l 2 [], .i 0, .i 0, .i 0, .i 0], .i 9]) [] else Q (.t [aDx d_0 d_1 d_2 d_3 d_4 d_5 d_6 d_7 d_8 d_9 d_10 d_11 d_12 d_13 d_14 state 0 d_17 d_18, .i 0]) [] : Prop))) : Prop)))) : PRun Tryz.prog 57 [] [aDx d_0 d_1 d_2 d_3 d_4 d_5 d_6 d_7 d_8 d_9 d_10 d_11 d_12 d_13 d_14 d_15 d_16 d_17 d_18, .i state] Q :=
 zak zxe Tryz.func57 (by kernel_rfl) (H := ⟨[], [], [], [], [], false, 64, KN.no, false, SP.no⟩) (n := 2) (by kernel_rfl) hh
theorem S72 {d_0 : Int} {d_1 : Int} {d_2 : Int} {d_3 : Int} {d_4 : Int} {d_5 : Int} {d_6 : Int} {d_7 : Int} {d_8 : Int} {d_9 : Int} {d_10 : Int} {d_11 : Int} {d_12 : Int} {d_13 : List (List U)} {d_14 : List (List U)} {d_15 : Int} {d_16 : Int} {d_17 : Int} {d_18 : Int} {Q : V → Mem → Prop} (hh : PRun Tryz.prog 74 [] [aDx d_0 d_1 d_2 d_3 d_4 d_5 d_6 d_7 d_8 d_9 d_10 d_11 d_12 d_13 d_14 d_15 d_16 d_17 d_18] (post [.I] [] (fun x1 => (bif x1 != 0 then Q (.t [.i 0, .i 1]) [] else (bif d_15 == 1 then Q (.t [.i 7, .i 0]) [] else (bif d_15 == 2 then Q (.t [.i 4, .i 0]) [] else Q (.t [.i 0, .i 9]) [])) : Prop)))) : PRun Tryz.prog 72 [] [aDx d_0 d_1 d_2 d_3 d_4 d_5 d_6 d_7 d_8 d_9 d_10 d_11 d_12 d_13 d_14 d_15 d_16 d_17 d_18] Q :=
 zak zxe Tryz.func72 (by kernel_rfl) (H := ⟨[], [], [], [], [], false, 64, KN.no, false, SP.no⟩) (n := 2) (by kernel_rfl) hh
theorem S87 {d_0 : Int} {d_1 : Int} {d_2 : Int} {d_3 : Int} {d_4 : Int} {d_5 : Int} {d_6 : Int} {d_7 : Int} {d_8 : Int} {d_9 : Int} {d_10 : Int} {d_11 : Int} {d_12 : Int} {d_13 : List (List U)} {d_14 : List (List U)} {d_15 : Int} {d_16 : Int} {d_17 : Int} {d_18 : Int} {now : Int} {Q : V → Mem → Prop} (hh : ∀ k1 : Bool → Prop, (∀ b1 : Bool, ((bif b1 then PRun Tryz.prog 74 [] [.a [.i d_0, .i d_1, .i d_2, .i d_3, .i d_4, .i d_5, .i d_6, .i d_7, .i d_8, .i d_9, .i d_10, .i d_11, .i d_12, .l 2 d_13, .l 2 d_14, .i 1, .i (z13 .i64 (now + d_10)), .i 0, .i 0]] (post [.I] [] (fun x1 => (bif x1 == 0 then Q (.t [.a [.i d_0, .i d_1, .i d_2, .i d_3, .i d_4, .i d_5, .i d_6, .i d_7, .i d_8, .i d_9, .i d_10, .i d_11, .i d_12, .l 2 d_13, .l 2 d_14, .i 1, .i (z13 .i64 (now + d_10)), .i 0, .i 0], .i 0]) [] else Q (.t [.a [.i 0, .i 0, .i 0, .i 0, .i 0, .i 0, .i 0, .i 0, .i 0, .i 0, .i 0, .i 0, .i 0, .l 2 [], .l 2 [], .i 0, .i 0, .i 0, .i 0], .i 1]) [] : Prop))) else Q (.t [.a [.i 0, .i 0, .i 0, .i 0, .i 0, .i 0, .i 0, .i 0, .i 0, .i 0, .i 0, .i 0, .i 0, .l 2 [], .l 2 [], .i 0, .i 0, .i 0, .i 0], .i 1]) [])) → k1 b1) → (bif decide (now ≥ 0) then (bif decide (now ≤ 1099511627776) then (bif decide (d_10 ≥ 1) then k1 (decide (d_10 ≤ 1048576)) else k1 false) else k1 false) else k1 false)) : PRun Tryz.prog 87 [] [aDx d_0 d_1 d_2 d_3 d_4 d_5 d_6 d_7 d_8 d_9 d_10 d_11 d_12 d_13 d_14 d_15 d_16 d_17 d_18, .i now] Q :=
 zak zxe Tryz.func87 (by kernel_rfl) (H := ⟨[], [((87, 3, 2), ⟨[(15, .B)], []⟩)], [101], [], [], false, 64, KN.no, false, SP.no⟩) (n := 3) (by kernel_rfl) hh
theorem S47 {d_0 : Int} {d_1 : Int} {d_2 : Int} {d_3 : Int} {d_4 : Int} {d_5 : Int} {d_6 : Int} {d_7 : Int} {d_8 : Int} {d_9 : Int} {d_10 : Int} {d_11 : Int} {d_12 : Int} {d_13 : List (List U)} {d_14 : List (List U)} {d_15 : Int} {d_16 : Int} {d_17 : Int} {d_18 : Int} {now : Int} {taker : Int} {into : Int} {Q : V → Mem → Prop} (hh : PRun Tryz.prog 74 [] [aDx d_0 d_1 d_2 d_3 d_4 d_5 d_6 d_7 d_8 d_9 d_10 d_11 d_12 d_13 d_14 d_15 d_16 d_17 d_18] (post [.I] [] (fun x1 => (bif x1 != 0 then Q (.t [.a [.i 0, .i 0, .i 0, .i 0, .i 0, .i 0, .i 0, .i 0, .i 0, .i 0, .i 0, .i 0, .i 0, .l 2 [], .l 2 [], .i 0, .i 0, .i 0, .i 0], .i 1]) [] else (bif decide (now ≥ 0) then (bif !(decide (now ≤ 1099511627776)) then Q (.t [.a [.i 0, .i 0, .i 0, .i 0, .i 0, .i 0, .i 0, .i 0, .i 0, .i 0, .i 0, .i 0, .i 0, .l 2 [], .l 2 [], .i 0, .i 0, .i 0, .i 0], .i 1]) [] else (bif decide (taker ≥ 1) then (bif !(decide (taker ≤ 1099511627776)) then Q (.t [.a [.i 0, .i 0, .i 0, .i 0, .i 0, .i 0, .i 0, .i 0, .i 0, .i 0, .i 0, .i 0, .i 0, .l 2 [], .l 2 [], .i 0, .i 0, .i 0, .i 0], .i 1]) [] else (bif taker == d_2 then Q (.t [.a [.i 0, .i 0, .i 0, .i 0, .i 0, .i 0, .i 0, .i 0, .i 0, .i 0, .i 0, .i 0, .i 0, .l 2 [], .l 2 [], .i 0, .i 0, .i 0, .i 0], .i 1]) [] else (bif decide (into ≥ 0) then (bif !(decide (into ≤ 4)) then Q (.t [.a [.i 0, .i 0, .i 0, .i 0, .i 0, .i 0, .i 0, .i 0, .i 0, .i 0, .i 0, .i 0, .i 0, .l 2 [], .l 2 [], .i 0, .i 0, .i 0, .i 0], .i 1]) [] else (bif d_15 != 1 then Q (.t [.a [.i 0, .i 0, .i 0, .i 0, .i 0, .i 0, .i 0, .i 0, .i 0, .i 0, .i 0, .i 0, .i 0, .l 2 [], .l 2 [], .i 0, .i 0, .i 0, .i 0], .i 9]) [] else (bif d_5 != 0 then (bif d_5 != taker then Q (.t [.a [.i 0, .i 0, .i 0, .i 0, .i 0, .i 0, .i 0, .i 0, .i 0, .i 0, .i 0, .i 0, .i 0, .l 2 [], .l 2 [], .i 0, .i 0, .i 0, .i 0], .i 9]) [] else (bif d_1 == 2 then Q (.t [aDx d_0 d_1 d_2 d_3 d_4 d_5 d_6 d_7 d_8 d_9 d_10 d_11 d_12 d_13 d_14 3 0 taker into, .i 0]) [] else Q (.t [.a [.i d_0, .i d_1, .i d_2, .i d_3, .i d_4, .i d_5, .i d_6, .i d_7, .i d_8, .i d_9, .i d_10, .i d_11, .i d_12, .l 2 d_13, .l 2 d_14, .i 2, .i (z13 .i64 (now + d_11)), .i taker, .i into], .i 0]) [])) else (bif d_1 == 2 then Q (.t [aDx d_0 d_1 d_2 d_3 d_4 d_5 d_6 d_7 d_8 d_9 d_10 d_11 d_12 d_13 d_14 3 0 taker into, .i 0]) [] else Q (.t [.a [.i d_0, .i d_1, .i d_2, .i d_3, .i d_4, .i d_5, .i d_6, .i d_7, .i d_8, .i d_9, .i d_10, .i d_11, .i d_12, .l 2 d_13, .l 2 d_14, .i 2, .i (z13 .i64 (now + d_11)), .i taker, .i into], .i 0]) [])))) else Q (.t [.a [.i 0, .i 0, .i 0, .i 0, .i 0, .i 0, .i 0, .i 0, .i 0, .i 0, .i 0, .i 0, .i 0, .l 2 [], .l 2 [], .i 0, .i 0, .i 0, .i 0], .i 1]) []))) else Q (.t [.a [.i 0, .i 0, .i 0, .i 0, .i 0, .i 0, .i 0, .i 0, .i 0, .i 0, .i 0, .i 0, .i 0, .l 2 [], .l 2 [], .i 0, .i 0, .i 0, .i 0], .i 1]) [])) else Q (.t [.a [.i 0, .i 0, .i 0, .i 0, .i 0, .i 0, .i 0, .i 0, .i 0, .i 0, .i 0, .i 0, .i 0, .l 2 [], .l 2 [], .i 0, .i 0, .i 0, .i 0], .i 1]) []) : Prop)))) : PRun Tryz.prog 47 [] [aDx d_0 d_1 d_2 d_3 d_4 d_5 d_6 d_7 d_8 d_9 d_10 d_11 d_12 d_13 d_14 d_15 d_16 d_17 d_18, .i now, .i taker, .i into] Q :=
 zak zxe Tryz.func47 (by kernel_rfl) (H := ⟨[], [], [101], [], [], false, 64, KN.no, false, SP.no⟩) (n := 3) (by kernel_rfl) hh
theorem S110 {d_0 : Int} {d_1 : Int} {d_2 : Int} {d_3 : Int} {d_4 : Int} {d_5 : Int} {d_6 : Int} {d_7 : Int} {d_8 : Int} {d_9 : Int} {d_10 : Int} {d_11 : Int} {d_12 : Int} {d_13 : List (List U)} {d_14 : List (List U)} {d_15 : Int} {d_16 : Int} {d_17 : Int} {d_18 : Int} {state : Int} {tax : Int} {Q : V → Mem → Prop} (hh : bif d_1 == 2 then (bif d_15 == 1 then PRun Tryz.prog 74 [] [aDx d_0 d_1 d_2 d_3 d_4 d_5 d_6 d_7 d_8 d_9 d_10 d_11 d_12 d_13 d_14 d_15 d_16 d_17 d_18] (post [.I] [] (fun x1 => (bif x1 != 0 then Q (.t [.l 3 [], .i 1]) [] else (bif decide (tax ≥ 0) then (bif !(decide (tax ≤ d_8)) then Q (.t [.l 3 [], .i 1]) [] else (bif decide (tax > 0) then (bif !(state == 3) then Q (.t [.l 3 [], .i 1]) [] else (bif !(state == 3) then PRun Tryz.prog 115 [] [aDx d_0 d_1 d_2 d_3 d_4 d_5 d_6 d_7 d_8 d_9 d_10 d_11 d_12 d_13 d_14 d_15 d_16 d_17 d_18, .i state] (post [.B] [] (fun b1 => (bif !b1 then Q (.t [.l 3 [], .i 9]) [] else ∀ k1 : List (List U) → Prop, (∀ l1 : List (List U), (∃ d1 : List Pm, 155 = 155 ∧ (.w 234 3 l1 : AB) = .w 234 3 (z26 eP d1) ∧ z15 d1 ≤ 2 ∧ (∀ x ∈ d1, 0 ≤ x.2.2) ∧ (Q (.t [.l 3 (z26 eP (nzP d1)), .i 0]) [])) → k1 l1) → (bif state == 3 then k1 [[.n 0, .n d_2, .n (z13 .i64 (d_8 - tax))], [.n 0, .n 0, .n tax]] else (bif d_1 == 2 then k1 [] else (bif state == 3 then k1 [[.n 0, .n d_17, .n (z13 .i64 (d_8 + d_9))]] else (bif state == 4 then k1 [[.n 0, .n d_2, .n (z13 .i64 (d_8 + d_9))]] else k1 [[.n 0, .n d_2, .n d_8]])))) : Prop))) else ∀ k2 : List (List U) → Prop, (∀ l2 : List (List U), (∃ d2 : List Pm, 155 = 155 ∧ (.w 234 3 l2 : AB) = .w 234 3 (z26 eP d2) ∧ z15 d2 ≤ 2 ∧ (∀ x ∈ d2, 0 ≤ x.2.2) ∧ (Q (.t [.l 3 (z26 eP (nzP d2)), .i 0]) [])) → k2 l2) → (bif state == 3 then k2 [[.n 0, .n d_2, .n (z13 .i64 (d_8 - tax))], [.n 0, .n 0, .n tax]] else (bif d_1 == 2 then k2 [] else (bif state == 3 then k2 [[.n 0, .n d_17, .n (z13 .i64 (d_8 + d_9))]] else (bif state == 4 then k2 [[.n 0, .n d_2, .n (z13 .i64 (d_8 + d_9))]] else k2 [[.n 0, .n d_2, .n d_8]])))))) else (bif !(state == 3) then PRun Tryz.prog 115 [] [aDx d_0 d_1 d_2 d_3 d_4 d_5 d_6 d_7 d_8 d_9 d_10 d_11 d_12 d_13 d_14 d_15 d_16 d_17 d_18, .i state] (post [.B] [] (fun b2 => (bif !b2 then Q (.t [.l 3 [], .i 9]) [] else ∀ k3 : List (List U) → Prop, (∀ l3 : List (List U), (∃ d3 : List Pm, 155 = 155 ∧ (.w 234 3 l3 : AB) = .w 234 3 (z26 eP d3) ∧ z15 d3 ≤ 2 ∧ (∀ x ∈ d3, 0 ≤ x.2.2) ∧ (Q (.t [.l 3 (z26 eP (nzP d3)), .i 0]) [])) → k3 l3) → (bif state == 3 then k3 [[.n 0, .n d_2, .n (z13 .i64 (d_8 - tax))], [.n 0, .n 0, .n tax]] else (bif d_1 == 2 then k3 [] else (bif state == 3 then k3 [[.n 0, .n d_17, .n (z13 .i64 (d_8 + d_9))]] else (bif state == 4 then k3 [[.n 0, .n d_2, .n (z13 .i64 (d_8 + d_9))]] else k3 [[.n 0, .n d_2, .n d_8]])))) : Prop))) else ∀ k4 : List (List U) → Prop, (∀ l4 : List (List U), (∃ d4 : List Pm, 155 = 155 ∧ (.w 234 3 l4 : AB) = .w 234 3 (z26 eP d4) ∧ z15 d4 ≤ 2 ∧ (∀ x ∈ d4, 0 ≤ x.2.2) ∧ (Q (.t [.l 3 (z26 eP (nzP d4)), .i 0]) [])) → k4 l4) → (bif state == 3 then k4 [[.n 0, .n d_2, .n (z13 .i64 (d_8 - tax))], [.n 0, .n 0, .n tax]] else (bif d_1 == 2 then k4 [] else (bif state == 3 then k4 [[.n 0, .n d_17, .n (z13 .i64 (d_8 + d_9))]] else (bif state == 4 then k4 [[.n 0, .n d_2, .n (z13 .i64 (d_8 + d_9))]] else k4 [[.n 0, .n d_2, .n d_8]]))))))) else Q (.t [.l 3 [], .i 1]) []) : Prop))) else PRun Tryz.prog 74 [] [aDx d_0 d_1 d_2 d_3 d_4 d_5 d_6 d_7 d_8 d_9 d_10 d_11 d_12 d_13 d_14 d_15 d_16 d_17 d_18] (post [.I] [] (fun x2 => (bif x2 != 0 then Q (.t [.l 3 [], .i 1]) [] else (bif decide (tax ≥ 0) then (bif !(decide (tax ≤ d_8)) then Q (.t [.l 3 [], .i 1]) [] else (bif decide (tax > 0) then Q (.t [.l 3 [], .i 1]) [] else PRun Tryz.prog 115 [] [aDx d_0 d_1 d_2 d_3 d_4 d_5 d_6 d_7 d_8 d_9 d_10 d_11 d_12 d_13 d_14 d_15 d_16 d_17 d_18, .i state] (post [.B] [] (fun b3 => (bif !b3 then Q (.t [.l 3 [], .i 9]) [] else ∀ k5 : List (List U) → Prop, (∀ l5 : List (List U), (∃ d5 : List Pm, 155 = 155 ∧ (.w 234 3 l5 : AB) = .w 234 3 (z26 eP d5) ∧ z15 d5 ≤ 2 ∧ (∀ x ∈ d5, 0 ≤ x.2.2) ∧ (Q (.t [.l 3 (z26 eP (nzP d5)), .i 0]) [])) → k5 l5) → (bif d_1 == 2 then k5 [] else (bif state == 3 then k5 [[.n 0, .n d_17, .n (z13 .i64 (d_8 + d_9))]] else (bif state == 4 then k5 [[.n 0, .n d_2, .n (z13 .i64 (d_8 + d_9))]] else k5 [[.n 0, .n d_2, .n d_8]]))) : Prop))))) else Q (.t [.l 3 [], .i 1]) []) : Prop)))) else PRun Tryz.prog 74 [] [aDx d_0 d_1 d_2 d_3 d_4 d_5 d_6 d_7 d_8 d_9 d_10 d_11 d_12 d_13 d_14 d_15 d_16 d_17 d_18] (post [.I] [] (fun x3 => (bif x3 != 0 then Q (.t [.l 3 [], .i 1]) [] else (bif decide (tax ≥ 0) then (bif !(decide (tax ≤ d_8)) then Q (.t [.l 3 [], .i 1]) [] else (bif decide (tax > 0) then Q (.t [.l 3 [], .i 1]) [] else PRun Tryz.prog 115 [] [aDx d_0 d_1 d_2 d_3 d_4 d_5 d_6 d_7 d_8 d_9 d_10 d_11 d_12 d_13 d_14 d_15 d_16 d_17 d_18, .i state] (post [.B] [] (fun b4 => (bif !b4 then Q (.t [.l 3 [], .i 9]) [] else ∀ k6 : List (List U) → Prop, (∀ l6 : List (List U), (∃ d6 : List Pm, 155 = 155 ∧ (.w 234 3 l6 : AB) = .w 234 3 (z26 eP d6) ∧ z15 d6 ≤ 2 ∧ (∀ x ∈ d6, 0 ≤ x.2.2) ∧ (Q (.t [.l 3 (z26 eP (nzP d6)), .i 0]) [])) → k6 l6) → (bif d_1 == 2 then k6 [] else (bif state == 3 then k6 [[.n 0, .n d_17, .n (z13 .i64 (d_8 + d_9))]] else (bif state == 4 then k6 [[.n 0, .n d_2, .n (z13 .i64 (d_8 + d_9))]] else k6 [[.n 0, .n d_2, .n d_8]]))) : Prop))))) else Q (.t [.l 3 [], .i 1]) []) : Prop)))) : PRun Tryz.prog 110 [] [aDx d_0 d_1 d_2 d_3 d_4 d_5 d_6 d_7 d_8 d_9 d_10 d_11 d_12 d_13 d_14 d_15 d_16 d_17 d_18, .i state, .i tax] Q :=
 zak zxe Tryz.func110 (by kernel_rfl) (H := ⟨[], [((110, 16, 1), ⟨[(10, .one (.ow 234 3))], []⟩)], [101], [], [], true, 64, KN.no, false, spDel⟩) (n := 3) (by kernel_rfl) hh
end
section
set_option maxRecDepth 1000000
variable {Q : V → Mem → Prop}
structure DOk (d : Dl) : Prop where
 id : 1 ≤ d.id ∧ d.id ≤ 1099511627776
 iss : 1 ≤ d.iss ∧ d.iss ≤ 1099511627776
 div : 0 ≤ d.div ∧ d.div ≤ 4
 place : 1 ≤ d.place ∧ d.place ≤ 8
 pay : 0 ≤ d.pay ∧ d.pay ≤ 1152921504606846976
 lasts : 1 ≤ d.lasts ∧ d.lasts ≤ 1048576
 gives : zhv d.gives 32 = 0
 wants : zhv d.wants 32 = 0
 kind : (d.kind = 1 ∧ 1 ≤ d.dest ∧ d.dest ≤ 8 ∧ 1 ≤ d.days ∧ d.days ≤ 1048576 ∧ 0 ≤ d.pledge ∧ d.pledge ≤ 1152921504606846976 ∧ d.wants = []) ∨ (d.kind = 2 ∧ d.pledge = 0)
 open' : d.st = 1 → 1 ≤ d.due ∧ d.due ≤ 2199023255552
 taken : d.st = 2 → d.kind = 1 ∧ 1 ≤ d.due ∧ d.due ≤ 2199023255552 ∧ 1 ≤ d.taker ∧ d.taker ≤ 1099511627776 ∧ d.taker ≠ d.iss ∧ 0 ≤ d.into ∧ d.into ≤ 4
 st : 1 ≤ d.st ∧ d.st ≤ 7
theorem zcc {d : Dl} (h : dOk d = true) : DOk d := by
 unfold dOk at h
 simp only [z17] at h
 obtain ⟨h1, h2, h3, h4, h5⟩ := h
 simp only [dWho, z17, decide_eq_true_eq] at h1
 simp only [dWhat, z17, decide_eq_true_eq] at h2
 simp only [zwc, z17, beq_iff_eq] at h3
 have hk : (d.kind = 1 ∧ 1 ≤ d.dest ∧ d.dest ≤ 8 ∧ 1 ≤ d.days ∧ d.days ≤ 1048576 ∧ 0 ≤ d.pledge ∧ d.pledge ≤ 1152921504606846976 ∧ d.wants = []) ∨ (d.kind = 2 ∧ d.pledge = 0) := by
  unfold zxs at h4
  split at h4
  · rename_i e
    simp only [z17, decide_eq_true_eq, beq_iff_eq] at h4
    exact .inl ⟨e, by omega, by omega, by omega, by omega, by omega, by omega, z6o.1 (by omega)⟩
  · split at h4
    · rename_i e
      rw [zlq] at h4
      simp only [z17, decide_eq_true_eq, List.cons.injEq, and_true] at h4
      exact .inr ⟨e, h4.1.2.2⟩
    · cases h4
 refine ⟨by omega, by omega, by omega, by omega, by omega, by omega, h3.1, h3.2, hk, fun e => ?_, fun e => ?_, ?_⟩
 · unfold zdl at h5
   rw [if_pos e] at h5
   simp only [dDue, z17, decide_eq_true_eq] at h5
   omega
 · unfold zdl at h5
   rw [if_neg (by omega), if_pos e] at h5
   simp only [dDue, zfh, z17, decide_eq_true_eq, beq_iff_eq, bne_iff_ne] at h5
   exact ⟨h5.1, by omega, by omega, by omega, by omega, h5.2.2.2.2.1, by omega, by omega⟩
 · by_cases hc : 1 ≤ d.st ∧ d.st ≤ 7
   · exact hc
   · unfold zdl at h5
     rw [if_neg (by omega), if_neg (by omega), if_neg (by omega), if_neg (by omega), if_neg (by omega), if_neg (by omega)] at h5
     cases h5
abbrev dZ : Dl := ⟨0, 0, 0, 0, 0, 0, 0, 0, 0, 0, 0, 0, 0, [], [], 0, 0, 0, 0⟩
def zja (d : Dl) (s : Int) : Bool := (d.st == 2 && (s == 3 || s == 4)) || (d.st == 1 && (s == 6 || s == 7)) || (d.st == 1 && s == 5 && d.to != 0)
theorem dMay_S {d : Dl} {s : Int} (K : Q (.u (.b (zja d s))) []) : PRun Tryz.prog 115 [] [dV d, .i s] Q := by
 refine S115 ?_
 intro k1 hk1
 have e2 : ∀ a b : Int, eqI [d.st, s] [a, b] = (d.st == a && s == b) := fun a b => by simp [eqI]
 simp only [e2] at *
 have fin : k1 ((d.st == 2 && (s == 3 || s == 4)) || (d.st == 1 && (s == 6 || s == 7))) := by
  refine hk1 _ ?_
  unfold zja at K
  cases h1 : ((d.st == 2 && (s == 3 || s == 4)) || (d.st == 1 && (s == 6 || s == 7))) with
  | true => rw [h1, Bool.true_or] at K; exact K
  | false =>
    rw [h1, Bool.false_or] at K
    show (bif (d.st == 1 && s == 5) then _ else _ : Prop)
    cases h2 : (d.st == 1 && s == 5) with
    | true => rw [h2, z4l] at K; exact K
    | false => rw [h2, Bool.false_and] at K; exact K
 cases h2 : (d.st == 2) <;> cases h1 : (d.st == 1) <;> cases h3 : (s == 3) <;> cases h4 : (s == 4) <;> cases h6 : (s == 6) <;> cases h7 : (s == 7) <;> rw [h1, h2, h3, h4, h6, h7] at fin <;> simp only [Bool.and_false, Bool.and_true, Bool.or_false, Bool.or_true, cond_true, cond_false] at fin ⊢ <;> exact fin
theorem zh8 {F : Int → Int → Int → Int → Int → Int → Int → Int → Int → Int → Int → Int → Int → List (List U) → List (List U) → Int → Int → Int → Int → Int → Prop} {d : Dl} {e : Int} {m : Mem} :
 post [.agg [.i .i64, .i .i64, .i .i64, .i .i64, .i .i64, .i .i64, .i .i64, .i .i64, .i .i64, .i .i64, .i .i64, .i .i64, .i .i64, .l 2, .l 2, .i .i64, .i .i64, .i .i64, .i .i64], .I] [] F (.t [dV d, .i e]) m = F d.id d.kind d.iss d.div d.bye d.to d.place d.dest d.pay d.pledge d.lasts d.days d.fee (d.gives.map eS) (d.wants.map eS) d.st d.due d.taker d.into e := rfl
def zt5 (d : Dl) (s : Int) : Dl := { d with st := s, due := 0 }
section
variable {d : Dl} (h1 : d.gives.length ≤ 1000000) (h2 : d.wants.length ≤ 1000000)
include h1 h2
theorem dEnd_S {s : Int} (k1 : dOk d = false ∨ zja d s = false → ∀ e, e ≠ 0 → Q (.t [dV dZ, .i e]) []) (k2 : dOk d = true → zja d s = true → Q (.t [dV (zt5 d s), .i 0]) []) : PRun Tryz.prog 57 [] [dV d, .i s] Q := by
 refine S57 (zht h1 h2 ?_)
 rw [zax]
 unfold dChk
 by_cases hc : dOk d = true
 · rw [if_pos hc]
   refine cNe (fun h => absurd rfl h) fun _ => dMay_S ?_
   rw [zci]
   cases hm : zja d s with
   | true => exact k2 hc hm
   | false => exact k1 (.inr hm) 9 (by decide)
 · rw [if_neg hc]
   exact k1 (.inl (by simpa using hc)) 1 (by decide)
theorem dLate_S (k1 : ∀ e, e ≠ 0 → (dOk d = true → d.st ≠ 1 ∧ d.st ≠ 2) → Q (.t [.i 0, .i e]) []) (k2 : dOk d = true → d.st = 1 → Q (.t [.i 7, .i 0]) []) (k3 : dOk d = true → d.st = 2 → Q (.t [.i 4, .i 0]) []) : PRun Tryz.prog 72 [] [dV d] Q := by
 refine S72 (zht h1 h2 ?_)
 rw [zax]
 unfold dChk
 by_cases hc : dOk d = true
 · rw [if_pos hc]
   exact cNe (fun h => absurd rfl h) fun _ => cEq (fun h => k2 hc h) fun h => cEq (fun h' => k3 hc h') fun h' => k1 9 (by decide) fun _ => ⟨h, h'⟩
 · rw [if_neg hc]
   exact k1 1 (by decide) fun h => absurd h hc
end
def zr1 (d : Dl) (now : Int) : Dl := { d with st := 1, due := now + d.lasts, taker := 0, into := 0 }
theorem dOpen_S {d : Dl} {now : Int} (h1 : d.gives.length ≤ 1000000) (h2 : d.wants.length ≤ 1000000) (k1 : ∀ e, e ≠ 0 → Q (.t [dV dZ, .i e]) []) (k2 : 0 ≤ now → now ≤ 1099511627776 → dOk (zr1 d now) = true → Q (.t [dV (zr1 d now), .i 0]) []) : PRun Tryz.prog 87 [] [dV d, .i now] Q := by
 refine S87 ?_
 intro k hk
 have bad : k false := hk false (k1 1 (by decide))
 refine cIf (fun a1 => cIf (fun a2 => cIf (fun a3 => ?_) fun _ => bad) fun _ => bad) fun _ => bad
 by_cases a4 : d.lasts ≤ 1048576
 · rw [decide_eq_true a4]
   refine hk true ?_
   rw [cond_true, w64 (by omega) (by omega)]
   refine zht (d := zr1 d now) h1 h2 ?_
   rw [zax]
   unfold dChk
   by_cases hc : dOk (zr1 d now) = true
   · rw [if_pos hc]
     exact cEq (fun _ => k2 (by omega) (by omega) hc) fun h => absurd rfl h
   · rw [if_neg hc]
     exact k1 1 (by decide)
 · rw [decide_eq_false a4]
   exact bad
def zco (d : Dl) (now taker into : Int) : Dl := if d.kind = 2 then { d with st := 3, due := 0, taker := taker, into := into } else { d with st := 2, due := now + d.days, taker := taker, into := into }
theorem dTake_S {d : Dl} {now taker into : Int} (h1 : d.gives.length ≤ 1000000) (h2 : d.wants.length ≤ 1000000) (k1 : ∀ e, e ≠ 0 → Q (.t [dV dZ, .i e]) [])
 (k2 : dOk d = true → 0 ≤ now → now ≤ 1099511627776 → 1 ≤ taker → taker ≤ 1099511627776 → taker ≠ d.iss → 0 ≤ into → into ≤ 4 → d.st = 1 → Q (.t [dV (zco d now taker into), .i 0]) []) : PRun Tryz.prog 47 [] [dV d, .i now, .i taker, .i into] Q := by
 refine S47 (zht h1 h2 ?_)
 rw [zax]
 unfold dChk
 by_cases hc : dOk d = true
 · rw [if_pos hc]
   have ho := zcc hc
   refine cNe (fun h => absurd rfl h) fun _ => cIf (fun a1 => cNot (cIf (fun a2 => ?_) fun _ => k1 1 (by decide))) fun _ => k1 1 (by decide)
   refine cIf (fun a3 => cNot (cIf (fun a4 => ?_) fun _ => k1 1 (by decide))) fun _ => k1 1 (by decide)
   refine cEq (fun _ => k1 1 (by decide)) fun a5 => cIf (fun a6 => cNot (cIf (fun a7 => ?_) fun _ => k1 1 (by decide))) fun _ => k1 1 (by decide)
   refine cNe (fun _ => k1 9 (by decide)) fun a8 => ?_
   have fin : (bif d.kind == 2 then Q (.t [.a [.i d.id, .i d.kind, .i d.iss, .i d.div, .i d.bye, .i d.to, .i d.place, .i d.dest, .i d.pay, .i d.pledge, .i d.lasts, .i d.days, .i d.fee, .l 2 (d.gives.map eS), .l 2 (d.wants.map eS), .i 3, .i 0, .i taker, .i into], .i 0]) [] else Q (.t [.a [.i d.id, .i d.kind, .i d.iss, .i d.div, .i d.bye, .i d.to, .i d.place, .i d.dest, .i d.pay, .i d.pledge, .i d.lasts, .i d.days, .i d.fee, .l 2 (d.gives.map eS), .l 2 (d.wants.map eS), .i 2, .i (z13 .i64 (now + d.days)), .i taker, .i into], .i 0]) [] : Prop) := by
    have k3 := k2 hc (by omega) (by omega) (by omega) (by omega) a5 (by omega) (by omega) a8
    unfold zco at k3
    refine cEq (fun hk => by rw [if_pos hk] at k3; exact k3) fun hk => ?_
    rw [if_neg hk] at k3
    rcases ho.kind with hh | hh
    · rw [w64 (by omega) (by omega)]; exact k3
    · exact absurd hh.1 hk
   refine cNe (fun _ => cNe (fun _ => k1 9 (by decide)) fun _ => fin) fun _ => fin
 · rw [if_neg hc]
   exact k1 1 (by decide)
def zfi (d : Dl) (s : Int) : Bool := d.kind == 2 && (d.st == 1 && s == 3)
def zi9 (d : Dl) (s tax : Int) : List Pm :=
 if zfi d s then [(0, d.iss, d.pay - tax), (0, 0, tax)] else if d.kind = 2 then [] else if s = 3 then [(0, d.taker, d.pay + d.pledge)] else if s = 4 then [(0, d.iss, d.pay + d.pledge)] else [(0, d.iss, d.pay)]
def zf5 (d : Dl) (s tax : Int) : List Pm := nzP (zi9 d s tax)
theorem zr0 (d : Dl) (s tax : Int) : (zi9 d s tax).length ≤ 2 := by
 unfold zi9
 split
 · simp
 · split
   · simp
   · split
     · simp
     · split <;> simp
theorem shares_S {d : Dl} {s tax : Int} (h1 : d.gives.length ≤ 1000000) (h2 : d.wants.length ≤ 1000000) (hc : dOk d = true) (ht : 0 ≤ tax ∧ tax ≤ d.pay) (h3 : zfi d s = true ∨ (tax = 0 ∧ zja d s = true)) (K : Q (.t [.l 3 ((zf5 d s tax).map eP), .i 0]) []) :
 PRun Tryz.prog 110 [] [dV d, .i s, .i tax] Q := by
 have ho := zcc hc
 have hpl : 0 ≤ d.pledge ∧ d.pledge ≤ 1152921504606846976 := by rcases ho.kind with hh | hh <;> omega
 have hnn : ∀ x ∈ zi9 d s tax, 0 ≤ x.2.2 := fun x hx => by
  unfold zi9 at hx
  split at hx
  · simp at hx; rcases hx with rfl | rfl <;> simp <;> omega
  · split at hx
    · simp at hx
    · split at hx
      · simp at hx; subst hx; simp; omega
      · split at hx
        · simp at hx; subst hx; simp; omega
        · simp at hx; subst hx; simp; omega
 have go : ∀ {rows : List (List U)}, rows = (zi9 d s tax).map eP → ∃ d1 : List Pm, 155 = 155 ∧ (.w 234 3 rows : AB) = .w 234 3 (z26 eP d1) ∧ z15 d1 ≤ 2 ∧ (∀ x ∈ d1, 0 ≤ x.2.2) ∧ (Q (.t [.l 3 (z26 eP (nzP d1)), .i 0]) []) := fun {rows} e =>
  ⟨zi9 d s tax, rfl, by rw [e], zr0 d s tax, hnn, K⟩
 have hpay := ho.pay
 have w1 : z13 .i64 (d.pay - tax) = d.pay - tax := w64 (by omega) (by omega)
 have w2 : z13 .i64 (d.pay + d.pledge) = d.pay + d.pledge := w64 (by omega) (by omega)
 have rest : zfi d s = false → ∀ k : List (List U) → Prop, (∀ rows, rows = (zi9 d s tax).map eP → k rows) → (bif d.kind == 2 then k [] else (bif s == 3 then k [[.n 0, .n d.taker, .n (z13 .i64 (d.pay + d.pledge))]] else (bif s == 4 then k [[.n 0, .n d.iss, .n (z13 .i64 (d.pay + d.pledge))]] else k [[.n 0, .n d.iss, .n d.pay]]))) := fun hs k hk => by
  rw [w2]
  unfold zi9 at hk
  rw [hs] at hk
  simp only [z3n, if_false] at hk
  refine cEq (fun e2 => hk _ (by rw [if_pos e2]; rfl)) fun e2 => cEq (fun e3 => hk _ (by rw [if_neg e2, if_pos e3]; rfl)) fun e3 => cEq (fun e4 => hk _ (by rw [if_neg e2, if_neg e3, if_pos e4]; rfl)) fun e4 => hk _ (by rw [if_neg e2, if_neg e3, if_neg e4]; rfl)
 have chk : ∀ {K2 : Prop}, (0 ≤ tax → tax ≤ d.pay → K2) → PRun Tryz.prog 74 [] [dV d] (post [.I] [] (fun x1 => (bif x1 != 0 then Q (.t [.l 3 [], .i 1]) [] else (bif decide (tax ≥ 0) then (bif !(decide (tax ≤ d.pay)) then Q (.t [.l 3 [], .i 1]) [] else K2) else Q (.t [.l 3 [], .i 1]) []) : Prop))) := fun {K2} h => by
  refine zht h1 h2 ?_
  rw [zax]
  unfold dChk
  rw [if_pos hc]
  exact cNe (fun h => absurd rfl h) fun _ => cIf (fun a => cNot (cIf (fun b => h (by omega) b) fun hh => absurd ht.2 hh)) fun hh => absurd ht.1 (by omega)
 have may : ∀ {K2 : Prop}, zfi d s = false → K2 → PRun Tryz.prog 115 [] [dV d, .i s] (post [.B] [] (fun b1 => (bif !b1 then Q (.t [.l 3 [], .i 9]) [] else K2 : Prop))) := fun {K2} hs h => by
  rcases h3 with h3 | h3
  · rw [hs] at h3; cases h3
  · refine dMay_S ?_
    rw [zci, h3.2]
    exact h
 refine S110 ?_
 refine cEq (fun hk => cEq (fun hst => chk fun _ _ => ?_) fun hst => ?_) fun hk => ?_
 · have hsol : zfi d s = (s == 3) := by unfold zfi; rw [hk, hst]; rfl
   cases h33 : (s == 3) with
   | true =>
     rw [h33] at hsol
     have run : ∀ k1 : List (List U) → Prop, (∀ l1 : List (List U), (∃ d1 : List Pm, 155 = 155 ∧ (.w 234 3 l1 : AB) = .w 234 3 (z26 eP d1) ∧ z15 d1 ≤ 2 ∧ (∀ x ∈ d1, 0 ≤ x.2.2) ∧ (Q (.t [.l 3 (z26 eP (nzP d1)), .i 0]) [])) → k1 l1) → k1 [[.n 0, .n d.iss, .n (z13 .i64 (d.pay - tax))], [.n 0, .n 0, .n tax]] := fun k1 hk1 => hk1 _ (go (by
      rw [w1]
      unfold zi9
      rw [hsol]; rfl))
     exact cIf (fun _ => run) fun _ => run
   | false =>
     rw [h33] at hsol
     refine cIf (fun hp => ?_) fun _ => may hsol fun k1 hk1 => by
      have := rest hsol k1 fun rows e => hk1 rows (go e)
      rw [h33] at this
      exact this
     rcases h3 with h3 | h3
     · rw [hsol] at h3; cases h3
     · omega
 · have hsol : zfi d s = false := by unfold zfi; simp [hst]
   refine chk fun _ _ => cIf (fun hp => ?_) fun _ => may hsol fun k1 hk1 => rest hsol k1 fun rows e => hk1 rows (go e)
   rcases h3 with h3 | h3
   · rw [hsol] at h3; cases h3
   · omega
 · have hsol : zfi d s = false := by unfold zfi; simp [hk]
   refine chk fun _ _ => cIf (fun hp => ?_) fun _ => may hsol fun k1 hk1 => rest hsol k1 fun rows e => hk1 rows (go e)
   rcases h3 with h3 | h3
   · rw [hsol] at h3; cases h3
   · omega
end
section
variable {P : Program} {E : SPE P} {inl : List Nat} {nl n : Nat}
end
section
set_option maxRecDepth 1000000
end
def orP (x y : Option Prop) : Option Prop :=
 match x with
 | some p => some p
 | none => y
def SP.or {P : Program} (A B : SP P) : SP P where
 f ro call g args m K := orP (A.f ro call g args m K) (B.f ro call g args m K)
 ok := by
  intro ro hr X call hX hcall g args m KS p hs hp D ρ chs C h vs xx M ha
  unfold orP at hs
  split at hs
  · rename_i q hq
    cases hs
    exact A.ok hX hcall hq hp xx M ha
  · exact B.ok hX hcall hs hp xx M ha
section
variable {D D' : Fz} {ρ ρ' : List Loc} {m m' : Mem} {chs C : List zab} {h h' : zac} {ro hr : List Nat}
end
section
set_option maxRecDepth 1000000
noncomputable def zpp : Fr := Fr.of [.u (.b false), .r 10 0, .u (.b true), .z, .z, .z, .z, .z, .z, .z, .z, .z, .z, .z, .t [.a [.r 0 0, .r 3 0, .r 5 0, .r 7 0, .r 9 0], .u (.b true)], .t [.a [.r 0 0, .r 3 0, .r 5 0, .r 7 0, .r 9 0], .u (.b true)], .a [.r 0 0, .r 3 0, .r 5 0, .r 7 0, .r 9 0], .u (.b true), .z, .z, .z, .z, .z, .z, .z, .z, .z, .z, .z, .z, .z, .z, .z, .z, .z, .z, .z, .z, .z, .z, .z, .z, .z, .z, .z, .z, .z, .z, .z, .z, .z, .z, .z, .z, .z, .z, .z, .z, .z, .z, .z, .z, .z, .z, .z, .z, .z, .z, .z, .z, .z, .z, .z, .z, .z, .z, .z, .z, .z, .z, .z, .z, .z, .z, .z, .z, .z, .z, .z, .z, .z, .z, .z, .z, .z, .z, .z, .z, .z, .z, .z, .z, .z, .z, .z, .z, .z, .z, .z, .z, .z, .z, .z, .z, .z, .z, .z, .z, .z]
def zpu : Mem := [.c [.i 4, .w 1, .i 2, .w 2, .i 3, .i 200, .i 1, .i 500, .r 3 0, .r 5 0, .r 7 0, .r 9 0, .nl 19],
 .w 146 7 [[.n 3, .n 2, .n 10, .l 2 [[.n 1, .n 3], [.n 2, .n 1]], .n 2, .n 3, .n 5], [.n 4, .n 1, .n 7, .l 2 [[.n 3, .n 2]], .n 0, .n 0, .n 3]],
 .w 152 4 [[.n 1, .n 1, .n 1, .n 1000], [.n 1, .n 1, .n 0, .n 0]],
 .c [.w 4, .i 562],
 .w 191 5 [[.n 0, .n 0, .n 0, .n 0, .n 0], [.n 1, .n 0, .n 0, .n 0, .n 60], [.n 2, .n 0, .n 0, .n 0, .n 500], [.n 3, .n 0, .n 0, .n 0, .n 2]],
 .c [.w 6, .n .i64 33 [0, 120, 80, 40, 0, 0, 0, 0, 0, 0, 0, 0, 0, 0, 0, 0, 0, 0, 0, 0, 0, 0, 0, 0, 0, 0, 0, 0, 0, 0, 0, 0, 0]],
 .w 191 5 [[.n 1, .n 0, .n 1, .n 1, .n 60], [.n 1, .n 0, .n 1, .n 2, .n 40], [.n 1, .n 0, .n 1, .n 3, .n 20], [.n 2, .n 0, .n 1, .n 1, .n 60], [.n 2, .n 0, .n 1, .n 2, .n 40], [.n 2, .n 0, .n 1, .n 3, .n 20]],
 .c [.nl 3, .m 8, .i 256, .i 1],
 .p .n 1 false [],
 .c [.nl 4, .nm],
 .c [.r 0 0, .r 3 0, .r 5 0, .r 7 0, .r 9 0]]
theorem aw15_0 : evK Tryz.prog (zal whp) (z2b 600) 300 60 2 (zb3 0 (zbc Tryz.f15)) (zgm Tryz.prog Tryz.f15 []) (([] : Mem)) = some (zpp, zpu) := by kernel_rfl
noncomputable def zpo : Fr := Fr.of [.u (.b false), .r 10 0, .u (.b true), .i 1, .i 0, .z, .z, .z, .z, .z, .z, .z, .z, .z, .t [.a [.r 0 0, .r 3 0, .r 5 0, .r 7 0, .r 9 0], .u (.b true)], .t [.a [.r 0 0, .r 3 0, .r 5 0, .r 7 0, .r 9 0], .u (.b true)], .a [.r 0 0, .r 3 0, .r 5 0, .r 7 0, .r 9 0], .u (.b true), .u (.b true), .u (.b false), .t [.i 1, .i 0], .r 10 0, .r 0 0, .a [.i 0, .i 1, .i 2, .i 0, .i 2, .i 0, .i 1, .i 2, .i 100, .i 50, .i 10, .i 20, .i 0, .w 11, .nl 2, .i 0, .i 0, .i 0, .i 0], .t [.i 1, .i 0], .i 1, .i 0, .z, .z, .z, .z, .z, .z, .z, .z, .z, .z, .z, .z, .z, .z, .z, .z, .z, .z, .z, .z, .z, .z, .z, .z, .z, .z, .z, .z, .z, .z, .z, .z, .z, .z, .z, .z, .z, .z, .z, .z, .z, .z, .z, .z, .z, .z, .z, .z, .z, .z, .z, .z, .z, .z, .z, .z, .z, .z, .z, .z, .z, .z, .z, .z, .z, .z, .z, .z, .z, .z, .z, .z, .z, .z, .z, .z, .z, .z, .z, .z, .z, .z, .z, .z, .z, .z, .z, .z, .z, .z, .z, .z]
def zpt : Mem := [.c [.i 4, .w 1, .i 2, .w 2, .i 3, .i 200, .i 1, .i 500, .r 3 0, .r 5 0, .r 7 0, .r 9 0, .w 12],
 .w 146 7 [[.n 3, .n 2, .n 10, .l 2 [[.n 1, .n 3], [.n 2, .n 1]], .n 2, .n 3, .n 5], [.n 4, .n 1, .n 7, .l 2 [[.n 3, .n 2]], .n 0, .n 0, .n 3]],
 .w 152 4 [[.n 1, .n 1, .n 1, .n 1000], [.n 1, .n 1, .n 0, .n 0]],
 .c [.w 13, .i 562],
 .w 191 5 [[.n 0, .n 0, .n 0, .n 0, .n 0], [.n 1, .n 0, .n 0, .n 0, .n 60], [.n 2, .n 0, .n 0, .n 0, .n 500], [.n 3, .n 0, .n 0, .n 0, .n 2]],
 .c [.w 14, .n .i64 33 [0, 120, 80, 40, 0, 0, 0, 0, 0, 0, 0, 0, 0, 0, 0, 0, 0, 0, 0, 0, 0, 0, 0, 0, 0, 0, 0, 0, 0, 0, 0, 0, 0]],
 .w 191 5 [[.n 1, .n 0, .n 1, .n 1, .n 60], [.n 1, .n 0, .n 1, .n 2, .n 40], [.n 1, .n 0, .n 1, .n 3, .n 20], [.n 2, .n 0, .n 1, .n 1, .n 60], [.n 2, .n 0, .n 1, .n 2, .n 40], [.n 2, .n 0, .n 1, .n 3, .n 20]],
 .c [.w 15, .m 8, .i 256, .i 2],
 .p .n 1 false [(.n 1, [.n 0])],
 .c [.nl 4, .nm],
 .c [.r 0 0, .r 3 0, .r 5 0, .r 7 0, .r 9 0],
 .w 106 2 [[.n 1, .n 5]],
 .w 33 19 [[.n 1, .n 1, .n 2, .n 0, .n 2, .n 0, .n 1, .n 2, .n 100, .n 50, .n 10, .n 20, .n 3, .l 2 [[.n 1, .n 5]], .l 2 [], .n 1, .n 10, .n 0, .n 0]],
 .w 191 5 [[.n 0, .n 0, .n 0, .n 0, .n 3], [.n 1, .n 0, .n 0, .n 0, .n 60], [.n 2, .n 0, .n 0, .n 0, .n 397], [.n 3, .n 0, .n 0, .n 0, .n 2], [.n 2097153, .n 0, .n 0, .n 0, .n 100]],
 .w 191 5 [[.n 1, .n 0, .n 1, .n 1, .n 60], [.n 1, .n 0, .n 1, .n 2, .n 40], [.n 1, .n 0, .n 1, .n 3, .n 20], [.n 2, .n 0, .n 1, .n 1, .n 55], [.n 2, .n 0, .n 1, .n 2, .n 40], [.n 2, .n 0, .n 1, .n 3, .n 20], [.n 2097153, .n 0, .n 1, .n 1, .n 5]],
 .w 136 3 [[.n 10, .n 1, .n 3]]]
theorem aw15_1 : evK Tryz.prog (zal whp) (z2b 600) 300 60 2 (zb3 2 (zbc Tryz.f15)) (zpp) (zpu) = some (zpo, zpt) := by kernel_rfl
noncomputable def zpn : Fr := Fr.of [.u (.b false), .r 10 0, .u (.b true), .i 1, .i 0, .i 0, .i 10, .i 0, .z, .z, .z, .z, .z, .z, .t [.a [.r 0 0, .r 3 0, .r 5 0, .r 7 0, .r 9 0], .u (.b true)], .t [.a [.r 0 0, .r 3 0, .r 5 0, .r 7 0, .r 9 0], .u (.b true)], .a [.r 0 0, .r 3 0, .r 5 0, .r 7 0, .r 9 0], .u (.b true), .u (.b true), .u (.b false), .t [.i 1, .i 0], .r 10 0, .r 0 0, .a [.i 0, .i 1, .i 2, .i 0, .i 2, .i 0, .i 1, .i 2, .i 100, .i 50, .i 10, .i 20, .i 0, .w 11, .nl 2, .i 0, .i 0, .i 0, .i 0], .t [.i 1, .i 0], .i 1, .i 0, .r 10 0, .r 0 0, .i 0, .t [.i 10, .i 0], .r 10 1, .r 3 0, .t [.i 10, .i 0], .i 10, .i 0, .z, .z, .z, .z, .z, .z, .z, .z, .z, .z, .z, .z, .z, .z, .z, .z, .z, .z, .z, .z, .z, .z, .z, .z, .z, .z, .z, .z, .z, .z, .z, .z, .z, .z, .z, .z, .z, .z, .z, .z, .z, .z, .z, .z, .z, .z, .z, .z, .z, .z, .z, .z, .z, .z, .z, .z, .z, .z, .z, .z, .z, .z, .z, .z, .z, .z, .z, .z, .z, .z, .z, .z, .z, .z, .z, .z, .z, .z, .z, .z, .z, .z, .z]
def zps : Mem := [.c [.i 4, .w 1, .i 2, .w 2, .i 3, .i 200, .i 1, .i 500, .r 3 0, .r 5 0, .r 7 0, .r 9 0, .w 12],
 .w 146 7 [[.n 3, .n 2, .n 10, .l 2 [[.n 1, .n 3], [.n 2, .n 1]], .n 2, .n 3, .n 5], [.n 4, .n 1, .n 7, .l 2 [[.n 3, .n 2]], .n 0, .n 0, .n 3]],
 .w 152 4 [[.n 1, .n 1, .n 1, .n 1000], [.n 1, .n 1, .n 0, .n 0]],
 .c [.w 16, .i 562],
 .w 191 5 [[.n 0, .n 0, .n 0, .n 0, .n 0], [.n 1, .n 0, .n 0, .n 0, .n 60], [.n 2, .n 0, .n 0, .n 0, .n 500], [.n 3, .n 0, .n 0, .n 0, .n 2]],
 .c [.w 14, .n .i64 33 [0, 120, 80, 40, 0, 0, 0, 0, 0, 0, 0, 0, 0, 0, 0, 0, 0, 0, 0, 0, 0, 0, 0, 0, 0, 0, 0, 0, 0, 0, 0, 0, 0]],
 .w 191 5 [[.n 1, .n 0, .n 1, .n 1, .n 60], [.n 1, .n 0, .n 1, .n 2, .n 40], [.n 1, .n 0, .n 1, .n 3, .n 20], [.n 2, .n 0, .n 1, .n 1, .n 60], [.n 2, .n 0, .n 1, .n 2, .n 40], [.n 2, .n 0, .n 1, .n 3, .n 20]],
 .c [.w 17, .m 8, .i 256, .i 3],
 .p .n 1 false [(.n 2, [.n 0])],
 .c [.nl 4, .nm],
 .c [.r 0 0, .r 3 0, .r 5 0, .r 7 0, .r 9 0],
 .w 106 2 [[.n 1, .n 5]],
 .w 33 19 [[.n 1, .n 1, .n 2, .n 0, .n 2, .n 0, .n 1, .n 2, .n 100, .n 50, .n 10, .n 20, .n 3, .l 2 [[.n 1, .n 5]], .l 2 [], .n 2, .n 23, .n 1, .n 0]],
 .w 191 5 [[.n 0, .n 0, .n 0, .n 0, .n 3], [.n 1, .n 0, .n 0, .n 0, .n 60], [.n 2, .n 0, .n 0, .n 0, .n 397], [.n 3, .n 0, .n 0, .n 0, .n 2], [.n 2097153, .n 0, .n 0, .n 0, .n 100]],
 .w 191 5 [[.n 1, .n 0, .n 1, .n 1, .n 60], [.n 1, .n 0, .n 1, .n 2, .n 40], [.n 1, .n 0, .n 1, .n 3, .n 20], [.n 2, .n 0, .n 1, .n 1, .n 55], [.n 2, .n 0, .n 1, .n 2, .n 40], [.n 2, .n 0, .n 1, .n 3, .n 20], [.n 2097153, .n 0, .n 1, .n 1, .n 5]],
 .x,
 .w 191 5 [[.n 0, .n 0, .n 0, .n 0, .n 3], [.n 1, .n 0, .n 0, .n 0, .n 10], [.n 2, .n 0, .n 0, .n 0, .n 397], [.n 3, .n 0, .n 0, .n 0, .n 2], [.n 2097153, .n 0, .n 0, .n 0, .n 150]],
 .w 136 3 [[.n 23, .n 2, .n 3]]]
theorem aw15_2 : evK Tryz.prog (zal whp) (z2b 600) 300 60 2 (zb3 4 (zbc Tryz.f15)) (zpo) (zpt) = some (zpn, zps) := by kernel_rfl
noncomputable def zpm : Fr := Fr.of [.u (.b false), .r 10 0, .u (.b true), .i 1, .i 0, .i 0, .i 10, .i 0, .i 0, .i 160, .i 0, .z, .z, .z, .t [.a [.r 0 0, .r 3 0, .r 5 0, .r 7 0, .r 9 0], .u (.b true)], .t [.a [.r 0 0, .r 3 0, .r 5 0, .r 7 0, .r 9 0], .u (.b true)], .a [.r 0 0, .r 3 0, .r 5 0, .r 7 0, .r 9 0], .u (.b true), .u (.b true), .u (.b false), .t [.i 1, .i 0], .r 10 0, .r 0 0, .a [.i 0, .i 1, .i 2, .i 0, .i 2, .i 0, .i 1, .i 2, .i 100, .i 50, .i 10, .i 20, .i 0, .w 11, .nl 2, .i 0, .i 0, .i 0, .i 0], .t [.i 1, .i 0], .i 1, .i 0, .r 10 0, .r 0 0, .i 0, .t [.i 10, .i 0], .r 10 1, .r 3 0, .t [.i 10, .i 0], .i 10, .i 0, .r 10 0, .r 0 0, .i 0, .t [.i 160, .i 0], .r 10 1, .r 3 0, .t [.i 160, .i 0], .i 160, .i 0, .z, .z, .z, .z, .z, .z, .z, .z, .z, .z, .z, .z, .z, .z, .z, .z, .z, .z, .z, .z, .z, .z, .z, .z, .z, .z, .z, .z, .z, .z, .z, .z, .z, .z, .z, .z, .z, .z, .z, .z, .z, .z, .z, .z, .z, .z, .z, .z, .z, .z, .z, .z, .z, .z, .z, .z, .z, .z, .z, .z, .z, .z, .z, .z, .z, .z, .z, .z, .z, .z, .z, .z, .z, .z]
def zpr : Mem := [.c [.i 4, .w 1, .i 2, .w 2, .i 3, .i 200, .i 1, .i 500, .r 3 0, .r 5 0, .r 7 0, .r 9 0, .w 12],
 .w 146 7 [[.n 3, .n 2, .n 10, .l 2 [[.n 1, .n 3], [.n 2, .n 1]], .n 2, .n 3, .n 5], [.n 4, .n 1, .n 7, .l 2 [[.n 3, .n 2]], .n 0, .n 0, .n 3]],
 .w 152 4 [[.n 1, .n 1, .n 1, .n 1000], [.n 1, .n 1, .n 0, .n 0]],
 .c [.w 18, .i 562],
 .w 191 5 [[.n 0, .n 0, .n 0, .n 0, .n 0], [.n 1, .n 0, .n 0, .n 0, .n 60], [.n 2, .n 0, .n 0, .n 0, .n 500], [.n 3, .n 0, .n 0, .n 0, .n 2]],
 .c [.w 19, .n .i64 33 [0, 120, 80, 40, 0, 0, 0, 0, 0, 0, 0, 0, 0, 0, 0, 0, 0, 0, 0, 0, 0, 0, 0, 0, 0, 0, 0, 0, 0, 0, 0, 0, 0]],
 .w 191 5 [[.n 1, .n 0, .n 1, .n 1, .n 60], [.n 1, .n 0, .n 1, .n 2, .n 40], [.n 1, .n 0, .n 1, .n 3, .n 20], [.n 2, .n 0, .n 1, .n 1, .n 60], [.n 2, .n 0, .n 1, .n 2, .n 40], [.n 2, .n 0, .n 1, .n 3, .n 20]],
 .c [.v 17 3 0 0 false, .m 8, .i 256, .i 3],
 .p .n 1 false [],
 .c [.w 20, .m 21],
 .c [.r 0 0, .r 3 0, .r 5 0, .r 7 0, .r 9 0],
 .w 106 2 [[.n 1, .n 5]],
 .w 33 19 [[.n 1, .n 1, .n 2, .n 0, .n 2, .n 0, .n 1, .n 2, .n 100, .n 50, .n 10, .n 20, .n 3, .l 2 [[.n 1, .n 5]], .l 2 [], .n 3, .n 0, .n 1, .n 0]],
 .w 191 5 [[.n 0, .n 0, .n 0, .n 0, .n 3], [.n 1, .n 0, .n 0, .n 0, .n 60], [.n 2, .n 0, .n 0, .n 0, .n 397], [.n 3, .n 0, .n 0, .n 0, .n 2], [.n 2097153, .n 0, .n 0, .n 0, .n 100]],
 .w 191 5 [[.n 1, .n 0, .n 1, .n 1, .n 60], [.n 1, .n 0, .n 1, .n 2, .n 40], [.n 1, .n 0, .n 1, .n 3, .n 20], [.n 2, .n 0, .n 1, .n 1, .n 55], [.n 2, .n 0, .n 1, .n 2, .n 40], [.n 2, .n 0, .n 1, .n 3, .n 20], [.n 2097153, .n 0, .n 1, .n 1, .n 5]],
 .x,
 .w 191 5 [[.n 0, .n 0, .n 0, .n 0, .n 3], [.n 1, .n 0, .n 0, .n 0, .n 10], [.n 2, .n 0, .n 0, .n 0, .n 397], [.n 3, .n 0, .n 0, .n 0, .n 2], [.n 2097153, .n 0, .n 0, .n 0, .n 150]],
 .w 136 3 [[.n 23, .n 2, .n 3]],
 .w 191 5 [[.n 0, .n 0, .n 0, .n 0, .n 3], [.n 1, .n 0, .n 0, .n 0, .n 160], [.n 2, .n 0, .n 0, .n 0, .n 397], [.n 3, .n 0, .n 0, .n 0, .n 2], [.n 2097153, .n 0, .n 0, .n 0, .n 0]],
 .w 191 5 [[.n 1, .n 0, .n 1, .n 1, .n 60], [.n 1, .n 0, .n 1, .n 2, .n 40], [.n 1, .n 0, .n 1, .n 3, .n 20], [.n 2, .n 0, .n 1, .n 1, .n 55], [.n 2, .n 0, .n 1, .n 2, .n 40], [.n 2, .n 0, .n 1, .n 3, .n 20], [.n 2, .n 0, .n 2, .n 1, .n 5]],
 .w 54 4 [[.n 9, .n 2, .n 1, .n 3]],
 .p (.a 2) 1 false [(.a [2, 1], [.n 0])]]
theorem aw15_3 : evK Tryz.prog (zal whp) (z2b 600) 300 60 2 (zb3 6 (zbc Tryz.f15)) (zpn) (zps) = some (zpm, zpr) := by kernel_rfl
noncomputable def zpl : Fr := Fr.of [.u (.b false), .r 10 0, .u (.b true), .i 1, .i 0, .i 0, .i 10, .i 0, .i 0, .i 160, .i 0, .i 2, .i 0, .z, .t [.a [.r 0 0, .r 3 0, .r 5 0, .r 7 0, .r 9 0], .u (.b true)], .t [.a [.r 0 0, .r 3 0, .r 5 0, .r 7 0, .r 9 0], .u (.b true)], .a [.r 0 0, .r 3 0, .r 5 0, .r 7 0, .r 9 0], .u (.b true), .u (.b true), .u (.b false), .t [.i 1, .i 0], .r 10 0, .r 0 0, .a [.i 0, .i 1, .i 2, .i 0, .i 2, .i 0, .i 1, .i 2, .i 100, .i 50, .i 10, .i 20, .i 0, .w 11, .nl 2, .i 0, .i 0, .i 0, .i 0], .t [.i 1, .i 0], .i 1, .i 0, .r 10 0, .r 0 0, .i 0, .t [.i 10, .i 0], .r 10 1, .r 3 0, .t [.i 10, .i 0], .i 10, .i 0, .r 10 0, .r 0 0, .i 0, .t [.i 160, .i 0], .r 10 1, .r 3 0, .t [.i 160, .i 0], .i 160, .i 0, .t [.i 2, .i 0], .r 10 0, .r 0 0, .a [.i 0, .i 1, .i 2, .i 0, .i 2, .i 0, .i 1, .i 2, .i 100, .i 50, .i 10, .i 20, .i 0, .w 22, .nl 2, .i 0, .i 0, .i 0, .i 0], .t [.i 2, .i 0], .i 2, .i 0, .z, .z, .z, .z, .z, .z, .z, .z, .z, .z, .z, .z, .z, .z, .z, .z, .z, .z, .z, .z, .z, .z, .z, .z, .z, .z, .z, .z, .z, .z, .z, .z, .z, .z, .z, .z, .z, .z, .z, .z, .z, .z, .z, .z, .z, .z, .z, .z, .z, .z, .z, .z, .z, .z, .z, .z, .z, .z, .z, .z, .z, .z, .z, .z, .z, .z, .z]
def zpq : Mem := [.c [.i 4, .w 1, .i 2, .w 2, .i 3, .i 200, .i 1, .i 500, .r 3 0, .r 5 0, .r 7 0, .r 9 0, .w 23],
 .w 146 7 [[.n 3, .n 2, .n 10, .l 2 [[.n 1, .n 3], [.n 2, .n 1]], .n 2, .n 3, .n 5], [.n 4, .n 1, .n 7, .l 2 [[.n 3, .n 2]], .n 0, .n 0, .n 3]],
 .w 152 4 [[.n 1, .n 1, .n 1, .n 1000], [.n 1, .n 1, .n 0, .n 0]],
 .c [.w 24, .i 562],
 .w 191 5 [[.n 0, .n 0, .n 0, .n 0, .n 0], [.n 1, .n 0, .n 0, .n 0, .n 60], [.n 2, .n 0, .n 0, .n 0, .n 500], [.n 3, .n 0, .n 0, .n 0, .n 2]],
 .c [.w 25, .n .i64 33 [0, 120, 80, 40, 0, 0, 0, 0, 0, 0, 0, 0, 0, 0, 0, 0, 0, 0, 0, 0, 0, 0, 0, 0, 0, 0, 0, 0, 0, 0, 0, 0, 0]],
 .w 191 5 [[.n 1, .n 0, .n 1, .n 1, .n 60], [.n 1, .n 0, .n 1, .n 2, .n 40], [.n 1, .n 0, .n 1, .n 3, .n 20], [.n 2, .n 0, .n 1, .n 1, .n 60], [.n 2, .n 0, .n 1, .n 2, .n 40], [.n 2, .n 0, .n 1, .n 3, .n 20]],
 .c [.w 26, .m 8, .i 256, .i 4],
 .p .n 1 false [(.n 3, [.n 0])],
 .c [.w 20, .m 21],
 .c [.r 0 0, .r 3 0, .r 5 0, .r 7 0, .r 9 0],
 .w 106 2 [[.n 1, .n 5]],
 .x,
 .w 191 5 [[.n 0, .n 0, .n 0, .n 0, .n 3], [.n 1, .n 0, .n 0, .n 0, .n 60], [.n 2, .n 0, .n 0, .n 0, .n 397], [.n 3, .n 0, .n 0, .n 0, .n 2], [.n 2097153, .n 0, .n 0, .n 0, .n 100]],
 .w 191 5 [[.n 1, .n 0, .n 1, .n 1, .n 60], [.n 1, .n 0, .n 1, .n 2, .n 40], [.n 1, .n 0, .n 1, .n 3, .n 20], [.n 2, .n 0, .n 1, .n 1, .n 55], [.n 2, .n 0, .n 1, .n 2, .n 40], [.n 2, .n 0, .n 1, .n 3, .n 20], [.n 2097153, .n 0, .n 1, .n 1, .n 5]],
 .x,
 .w 191 5 [[.n 0, .n 0, .n 0, .n 0, .n 3], [.n 1, .n 0, .n 0, .n 0, .n 10], [.n 2, .n 0, .n 0, .n 0, .n 397], [.n 3, .n 0, .n 0, .n 0, .n 2], [.n 2097153, .n 0, .n 0, .n 0, .n 150]],
 .x,
 .w 191 5 [[.n 0, .n 0, .n 0, .n 0, .n 3], [.n 1, .n 0, .n 0, .n 0, .n 160], [.n 2, .n 0, .n 0, .n 0, .n 397], [.n 3, .n 0, .n 0, .n 0, .n 2], [.n 2097153, .n 0, .n 0, .n 0, .n 0]],
 .w 191 5 [[.n 1, .n 0, .n 1, .n 1, .n 60], [.n 1, .n 0, .n 1, .n 2, .n 40], [.n 1, .n 0, .n 1, .n 3, .n 20], [.n 2, .n 0, .n 1, .n 1, .n 55], [.n 2, .n 0, .n 1, .n 2, .n 40], [.n 2, .n 0, .n 1, .n 3, .n 20], [.n 2, .n 0, .n 2, .n 1, .n 5]],
 .w 54 4 [[.n 9, .n 2, .n 1, .n 3]],
 .p (.a 2) 1 false [(.a [2, 1], [.n 0])],
 .w 106 2 [[.n 1, .n 5]],
 .w 33 19 [[.n 1, .n 1, .n 2, .n 0, .n 2, .n 0, .n 1, .n 2, .n 100, .n 50, .n 10, .n 20, .n 3, .l 2 [[.n 1, .n 5]], .l 2 [], .n 3, .n 0, .n 1, .n 0], [.n 2, .n 1, .n 2, .n 0, .n 2, .n 0, .n 1, .n 2, .n 100, .n 50, .n 10, .n 20, .n 3, .l 2 [[.n 1, .n 5]], .l 2 [], .n 1, .n 19, .n 0, .n 0]],
 .w 191 5 [[.n 0, .n 0, .n 0, .n 0, .n 6], [.n 1, .n 0, .n 0, .n 0, .n 160], [.n 2, .n 0, .n 0, .n 0, .n 294], [.n 3, .n 0, .n 0, .n 0, .n 2], [.n 2097153, .n 0, .n 0, .n 0, .n 0], [.n 2097154, .n 0, .n 0, .n 0, .n 100]],
 .w 191 5 [[.n 1, .n 0, .n 1, .n 1, .n 60], [.n 1, .n 0, .n 1, .n 2, .n 40], [.n 1, .n 0, .n 1, .n 3, .n 20], [.n 2, .n 0, .n 1, .n 1, .n 50], [.n 2, .n 0, .n 1, .n 2, .n 40], [.n 2, .n 0, .n 1, .n 3, .n 20], [.n 2, .n 0, .n 2, .n 1, .n 5], [.n 2097154, .n 0, .n 1, .n 1, .n 5]],
 .w 136 3 [[.n 19, .n 3, .n 5]]]
theorem aw15_4 : evK Tryz.prog (zal whp) (z2b 600) 300 60 1 (zb3 8 (zbc Tryz.f15)) (zpm) (zpr) = some (zpl, zpq) := by kernel_rfl
noncomputable def zud : Fr := Fr.of [.u (.b false), .r 10 0, .u (.b true), .i 1, .i 0, .i 0, .i 10, .i 0, .i 0, .i 160, .i 0, .i 2, .i 0, .z, .t [.a [.r 0 0, .r 3 0, .r 5 0, .r 7 0, .r 9 0], .u (.b true)], .t [.a [.r 0 0, .r 3 0, .r 5 0, .r 7 0, .r 9 0], .u (.b true)], .a [.r 0 0, .r 3 0, .r 5 0, .r 7 0, .r 9 0], .u (.b true), .u (.b true), .u (.b false), .t [.i 1, .i 0], .r 10 0, .r 0 0, .a [.i 0, .i 1, .i 2, .i 0, .i 2, .i 0, .i 1, .i 2, .i 100, .i 50, .i 10, .i 20, .i 0, .w 11, .nl 2, .i 0, .i 0, .i 0, .i 0], .t [.i 1, .i 0], .i 1, .i 0, .r 10 0, .r 0 0, .i 0, .t [.i 10, .i 0], .r 10 1, .r 3 0, .t [.i 10, .i 0], .i 10, .i 0, .r 10 0, .r 0 0, .i 0, .t [.i 160, .i 0], .r 10 1, .r 3 0, .t [.i 160, .i 0], .i 160, .i 0, .t [.i 2, .i 0], .r 10 0, .r 0 0, .a [.i 0, .i 1, .i 2, .i 0, .i 2, .i 0, .i 1, .i 2, .i 100, .i 50, .i 10, .i 20, .i 0, .w 22, .nl 2, .i 0, .i 0, .i 0, .i 0], .t [.i 2, .i 0], .i 2, .i 0, .a [.r 0 0, .r 3 0, .r 5 0, .r 7 0, .r 9 0], .a [.i 0, .i 0, .i 10, .i 0, .i 0, .i 0, .i 0, .i 0, .i 0, .i 0, .i 0, .i 0, .i 0, .i 0, .i 0, .i 0, .i 0, .nl 2, .nl 2, .i 0, .i 0, .i 0, .i 0], .t [.i 19, .i 0, .i 0], .z, .z, .z, .z, .z, .z, .z, .z, .z, .z, .z, .z, .z, .z, .z, .z, .z, .z, .z, .z, .z, .z, .z, .z, .z, .z, .z, .z, .z, .z, .z, .z, .z, .z, .z, .z, .z, .z, .z, .z, .z, .z, .z, .z, .z, .z, .z, .z, .z, .z, .z, .z, .z, .z, .z, .z, .z, .z, .z, .z, .z, .z, .z, .z]
def zue : Mem := [.c [.i 4, .w 1, .i 2, .w 2, .i 3, .i 200, .i 1, .i 500, .r 3 0, .r 5 0, .r 7 0, .r 9 0, .w 23],
 .w 146 7 [[.n 3, .n 2, .n 10, .l 2 [[.n 1, .n 3], [.n 2, .n 1]], .n 2, .n 3, .n 5], [.n 4, .n 1, .n 7, .l 2 [[.n 3, .n 2]], .n 0, .n 0, .n 3]],
 .w 152 4 [[.n 1, .n 1, .n 1, .n 1000], [.n 1, .n 1, .n 0, .n 0]],
 .c [.w 27, .i 562],
 .w 191 5 [[.n 0, .n 0, .n 0, .n 0, .n 0], [.n 1, .n 0, .n 0, .n 0, .n 60], [.n 2, .n 0, .n 0, .n 0, .n 500], [.n 3, .n 0, .n 0, .n 0, .n 2]],
 .c [.w 28, .n .i64 33 [0, 120, 80, 40, 0, 0, 0, 0, 0, 0, 0, 0, 0, 0, 0, 0, 0, 0, 0, 0, 0, 0, 0, 0, 0, 0, 0, 0, 0, 0, 0, 0, 0]],
 .w 191 5 [[.n 1, .n 0, .n 1, .n 1, .n 60], [.n 1, .n 0, .n 1, .n 2, .n 40], [.n 1, .n 0, .n 1, .n 3, .n 20], [.n 2, .n 0, .n 1, .n 1, .n 60], [.n 2, .n 0, .n 1, .n 2, .n 40], [.n 2, .n 0, .n 1, .n 3, .n 20]],
 .c [.v 26 3 0 0 false, .m 8, .i 256, .i 4],
 .p .n 1 false [],
 .c [.w 29, .m 21],
 .c [.r 0 0, .r 3 0, .r 5 0, .r 7 0, .r 9 0],
 .w 106 2 [[.n 1, .n 5]],
 .x,
 .w 191 5 [[.n 0, .n 0, .n 0, .n 0, .n 3], [.n 1, .n 0, .n 0, .n 0, .n 60], [.n 2, .n 0, .n 0, .n 0, .n 397], [.n 3, .n 0, .n 0, .n 0, .n 2], [.n 2097153, .n 0, .n 0, .n 0, .n 100]],
 .w 191 5 [[.n 1, .n 0, .n 1, .n 1, .n 60], [.n 1, .n 0, .n 1, .n 2, .n 40], [.n 1, .n 0, .n 1, .n 3, .n 20], [.n 2, .n 0, .n 1, .n 1, .n 55], [.n 2, .n 0, .n 1, .n 2, .n 40], [.n 2, .n 0, .n 1, .n 3, .n 20], [.n 2097153, .n 0, .n 1, .n 1, .n 5]],
 .x,
 .w 191 5 [[.n 0, .n 0, .n 0, .n 0, .n 3], [.n 1, .n 0, .n 0, .n 0, .n 10], [.n 2, .n 0, .n 0, .n 0, .n 397], [.n 3, .n 0, .n 0, .n 0, .n 2], [.n 2097153, .n 0, .n 0, .n 0, .n 150]],
 .x,
 .w 191 5 [[.n 0, .n 0, .n 0, .n 0, .n 3], [.n 1, .n 0, .n 0, .n 0, .n 160], [.n 2, .n 0, .n 0, .n 0, .n 397], [.n 3, .n 0, .n 0, .n 0, .n 2], [.n 2097153, .n 0, .n 0, .n 0, .n 0]],
 .w 191 5 [[.n 1, .n 0, .n 1, .n 1, .n 60], [.n 1, .n 0, .n 1, .n 2, .n 40], [.n 1, .n 0, .n 1, .n 3, .n 20], [.n 2, .n 0, .n 1, .n 1, .n 55], [.n 2, .n 0, .n 1, .n 2, .n 40], [.n 2, .n 0, .n 1, .n 3, .n 20], [.n 2, .n 0, .n 2, .n 1, .n 5]],
 .x,
 .p (.a 2) 1 false [(.a [2, 1], [.n 0]), (.a [2, 2], [.n 1])],
 .w 106 2 [[.n 1, .n 5]],
 .w 33 19 [[.n 1, .n 1, .n 2, .n 0, .n 2, .n 0, .n 1, .n 2, .n 100, .n 50, .n 10, .n 20, .n 3, .l 2 [[.n 1, .n 5]], .l 2 [], .n 3, .n 0, .n 1, .n 0], [.n 2, .n 1, .n 2, .n 0, .n 2, .n 0, .n 1, .n 2, .n 100, .n 50, .n 10, .n 20, .n 3, .l 2 [[.n 1, .n 5]], .l 2 [], .n 7, .n 0, .n 0, .n 0]],
 .w 191 5 [[.n 0, .n 0, .n 0, .n 0, .n 6], [.n 1, .n 0, .n 0, .n 0, .n 160], [.n 2, .n 0, .n 0, .n 0, .n 294], [.n 3, .n 0, .n 0, .n 0, .n 2], [.n 2097153, .n 0, .n 0, .n 0, .n 0], [.n 2097154, .n 0, .n 0, .n 0, .n 100]],
 .w 191 5 [[.n 1, .n 0, .n 1, .n 1, .n 60], [.n 1, .n 0, .n 1, .n 2, .n 40], [.n 1, .n 0, .n 1, .n 3, .n 20], [.n 2, .n 0, .n 1, .n 1, .n 50], [.n 2, .n 0, .n 1, .n 2, .n 40], [.n 2, .n 0, .n 1, .n 3, .n 20], [.n 2, .n 0, .n 2, .n 1, .n 5], [.n 2097154, .n 0, .n 1, .n 1, .n 5]],
 .w 136 3 [[.n 19, .n 3, .n 5]],
 .w 191 5 [[.n 0, .n 0, .n 0, .n 0, .n 6], [.n 1, .n 0, .n 0, .n 0, .n 160], [.n 2, .n 0, .n 0, .n 0, .n 394], [.n 3, .n 0, .n 0, .n 0, .n 2], [.n 2097153, .n 0, .n 0, .n 0, .n 0], [.n 2097154, .n 0, .n 0, .n 0, .n 0]],
 .w 191 5 [[.n 1, .n 0, .n 1, .n 1, .n 60], [.n 1, .n 0, .n 1, .n 2, .n 40], [.n 1, .n 0, .n 1, .n 3, .n 20], [.n 2, .n 0, .n 1, .n 1, .n 55], [.n 2, .n 0, .n 1, .n 2, .n 40], [.n 2, .n 0, .n 1, .n 3, .n 20], [.n 2, .n 0, .n 2, .n 1, .n 5]],
 .w 54 4 [[.n 9, .n 2, .n 1, .n 3], [.n 19, .n 2, .n 2, .n 7]]]
theorem aw15_5 : evK Tryz.prog (zal whp) (z2b 600) 300 60 1 (zb3 9 (zbc Tryz.f15)) (zpl) (zpq) = some (zud, zue) := by kernel_rfl
theorem aw15_6 : endK Tryz.prog Tryz.f15 [] (zdn Tryz.prog (zal whp) (z2b 600) 300 60 (zb3 10 (zbc Tryz.f15)) (zud) (zue)) = some (.u (.b true), []) := by kernel_rfl
theorem aw15_c0 : zdn Tryz.prog (zal whp) (z2b 600) 300 60 (zb3 0 (zbc Tryz.f15)) (zgm Tryz.prog Tryz.f15 []) (([] : Mem)) = zdn Tryz.prog (zal whp) (z2b 600) 300 60 (zb3 2 (zbc Tryz.f15)) zpp zpu := zd3 aw15_0
theorem aw15_c1 : zdn Tryz.prog (zal whp) (z2b 600) 300 60 (zb3 2 (zbc Tryz.f15)) (zpp) (zpu) = zdn Tryz.prog (zal whp) (z2b 600) 300 60 (zb3 4 (zbc Tryz.f15)) zpo zpt := zd3 aw15_1
theorem aw15_c2 : zdn Tryz.prog (zal whp) (z2b 600) 300 60 (zb3 4 (zbc Tryz.f15)) (zpo) (zpt) = zdn Tryz.prog (zal whp) (z2b 600) 300 60 (zb3 6 (zbc Tryz.f15)) zpn zps := zd3 aw15_2
theorem aw15_c3 : zdn Tryz.prog (zal whp) (z2b 600) 300 60 (zb3 6 (zbc Tryz.f15)) (zpn) (zps) = zdn Tryz.prog (zal whp) (z2b 600) 300 60 (zb3 8 (zbc Tryz.f15)) zpm zpr := zd3 aw15_3
theorem aw15_c4 : zdn Tryz.prog (zal whp) (z2b 600) 300 60 (zb3 8 (zbc Tryz.f15)) (zpm) (zpr) = zdn Tryz.prog (zal whp) (z2b 600) 300 60 (zb3 9 (zbc Tryz.f15)) zpl zpq := zd3 aw15_4
theorem aw15_c5 : zdn Tryz.prog (zal whp) (z2b 600) 300 60 (zb3 9 (zbc Tryz.f15)) (zpl) (zpq) = zdn Tryz.prog (zal whp) (z2b 600) 300 60 (zb3 10 (zbc Tryz.f15)) zud zue := zd3 aw15_5
theorem aw15_run : PRun Tryz.prog 15 [] [] fun x m => x = .u (.b true) ∧ m = [] :=
 zgn (P := Tryz.prog) (by kernel_rfl) (zal whp) (r := (.u (.b true), [])) (inl := z2b 600) (nl := 300) (n := 61) Tryz.func15 (by kernel_rfl) (funF_of (c := (zbc Tryz.f15)) (by kernel_rfl) ((congrArg (endK Tryz.prog Tryz.f15 []) (aw15_c0.trans (aw15_c1.trans (aw15_c2.trans (aw15_c3.trans (aw15_c4.trans aw15_c5)))))).trans aw15_6))
end
section
open Go.Shelf
variable {Q : V → Mem → Prop}
theorem call151 : zbp Tryz.prog 151 := ⟨_, Tryz.func151, by kernel_rfl, by kernel_rfl⟩
theorem z0s (x y : Nat) (hx : x < 18446744073709551616) (hy : y < 18446744073709551616)
 (k : Q (.t [.u (.i .u64 ((x * y / 18446744073709551616 : Nat) : Int)), .u (.i .u64 ((x * y % 18446744073709551616 : Nat) : Int))]) []) :
 PRun Tryz.prog 151 [] [.u (.i .u64 x), .u (.i .u64 y)] Q := by
 refine .keep fun D C h vs S F => ?_
 obtain ⟨v, w, rfl, h1, h2⟩ := F.two
 rw [Rd.int_iff.1 h1.u_inv, Rd.int_iff.1 h2.u_inv]
 refine ⟨call151, fun w hw => (Any.bits_Mul64 Tryz.lays264 x y hx hy w).mono ?_⟩
 rintro e w' ⟨rfl, rfl⟩
 exact ⟨_, rfl, ⟨hw ▸ .refl _ _, _, .t (.cons (.u (.int _ _)) (.cons (.u (.int _ _)) .nil)), k⟩, .refl _⟩
theorem scale_S {a b c : Nat} (ha : a ≤ 9223372036854775807) (hb : b ≤ 9223372036854775807) (hc : c ≤ 9223372036854775807) (h1 : 1 ≤ c)
 (hm : (a * b + c - 1) / c ≤ 9223372036854775807) (k : Q (.t [.i (((a * b + c - 1) / c : Nat) : Int), .i 0]) []) :
 PRun Tryz.prog 106 [] [.i (a : Int), .i (b : Int), .i (c : Int), .u (.b true)] Q := by
 refine S106 (cIf (fun h => by omega) fun _ => cIf (fun h => by omega) fun _ => cIf (fun h => by omega) fun _ => ?_)
 rw [za0 (x := (a : Int)) (by omega) (by omega), za0 (x := (b : Int)) (by omega) (by omega), za0 (x := (c : Int)) (by omega) (by omega)]
 refine z0s a b (by omega) (by omega) ?_
 rw [zoo]
 have hp := Nat.div_add_mod (a * b) 18446744073709551616
 generalize a * b = p at *
 have hpc : p < 9223372036854775808 * c := by
  have := (Nat.div_lt_iff_lt_mul (x := p + c - 1) (y := 9223372036854775808) (k := c) (by omega)).1 (by omega)
  omega
 refine cIf (fun hq => ?_) fun hq => ?_
 · have : c ≤ p / 18446744073709551616 := by omega
   have := z63 18446744073709551616 this
   omega
 refine z12 (by omega) (Nat.mod_lt _ (by omega)) (by omega) fun Q r hQ hr e => ?_
 rw [zoo]
 have e2 : Q * c + r = p := by omega
 have hQ2 : Q ≤ 9223372036854775807 := by
  refine Nat.not_lt.1 fun hlt => ?_
  have := z3e c (show 9223372036854775808 ≤ Q by omega)
  omega
 have key : ∀ m : Nat, m = (if 0 < r then Q + 1 else Q) → (p + c - 1) / c = m := by
  intro m hm
  subst hm
  split
  · rw [z6p (by omega), z3i]
    omega
  · rw [z6p (by omega)]
    omega
 rw [cond_true]
 refine cIf (fun hr0 => ?_) fun hr0 => ?_
 · have hk := key (Q + 1) (by rw [if_pos (by omega)])
   rw [hk] at hm k
   refine cIf (fun _ => ?_) fun h => by omega
   rw [za0 (x := (Q : Int) + 1) (by omega) (by omega)]
   refine cIf (fun h => by omega) fun _ => ?_
   rw [w64 (by omega) (by omega)]
   exact k
 · have hk := key Q (by rw [if_neg (by omega)])
   rw [hk] at hm k
   refine cIf (fun h => by omega) fun _ => ?_
   rw [w64 (by omega) (by omega)]
   exact k
def upI (n by0 : Int) : Int := (n + by0 - 1) / by0
theorem scaleI_S {a b c : Int} (ha : 0 ≤ a ∧ a ≤ 9223372036854775807) (hb : 0 ≤ b ∧ b ≤ 9223372036854775807) (hc : 1 ≤ c ∧ c ≤ 9223372036854775807)
 (hm : upI (a * b) c ≤ 9223372036854775807) (k : Q (.t [.i (upI (a * b) c), .i 0]) []) :
 PRun Tryz.prog 106 [] [.i a, .i b, .i c, .u (.b true)] Q := by
 obtain ⟨x, rfl⟩ := z4e ha.1
 obtain ⟨y, rfl⟩ := z4e hb.1
 obtain ⟨z, rfl⟩ := z4e (show 0 ≤ c by omega)
 have e : upI ((x : Int) * y) z = (((x * y + z - 1) / z : Nat) : Int) := by
  unfold upI
  rw [← z42]
  generalize x * y = p
  rw [Int.natCast_ediv, show ((p + z - 1 : Nat) : Int) = (p : Int) + z - 1 by omega]
 rw [e] at hm k
 exact scale_S (by omega) (by omega) (by omega) (by omega) (by omega) k
structure Bl where
 makes : Int
 per : Int
 time : Int
 needs : List Stk
 copy : Int
 study : Int
 most : Int
section
variable {b : Bl} {types : Int}
end
end
section
set_option maxRecDepth 100000
open Go.Sort Go.Shelf
attribute [local irreducible] znx zxu delK updK zxj zxh zm9 zxb znt zdw zf1 zgk YRun
section
variable {D D' : Fz} {C : List zab} {h h' : zac}
theorem St.at0 {b : Nat} {o : Obj} (S : St D ([(b, o)] :: C) h) : atO h b o := S.get (z2x _)
theorem St.set0 {b : Nat} {o o' : Obj} {K : zac → Prop} (S : St D ([(b, o)] :: C) h) (hK : ∀ h', St D ([(b, o')] :: C) h' → K h') : zx7 h b o' K := by
 have hb := zbl S.at0
 refine hK _ (S.upd ⟨by simp, fun x hx hf => ?_⟩ (by simp [hb]) (by simp) (by simp))
 rw [Array.getElem?_setIfInBounds_ne]
 simp at hf; exact fun e => hf e.symm
theorem St.at1 {b : Nat} {o : Obj} {c0 : zab} (S : St D (c0 :: [(b, o)] :: C) h) : atO h b o := S.drop.at0
theorem St.set1 {b : Nat} {o o' : Obj} {c0 : zab} {K : zac → Prop} (S : St D (c0 :: [(b, o)] :: C) h) (hK : ∀ h', St D (c0 :: [(b, o')] :: C) h' → K h') : zx7 h b o' K := S.swap.set0 fun h' S' => hK h' S'.swap
theorem St.sub {c : zab} (S : St D C h) (hc : c ∈ C) : ∀ p ∈ c, h[p.1]? = some p.2 := fun p hp => S.own p (List.mem_flatten.2 ⟨c, hc, hp⟩)
abbrev encQ (x : Tm) : List Value := [.int .i64 x.1, .int .i64 x.2.1, .int .i64 x.2.2]
abbrev OwnQ (D : Fz) (a : Option Addr) (c : Nat) (L : List Tm) (och : zab) : Prop := Own D 136 3 a c (L.map rT) och
theorem rd_Q {vs : List Value} {t : Tm} : RdL D vs (rT t) ↔ vs = [.int .i64 t.1, .int .i64 t.2.1, .int .i64 t.2.2] := by
 simp only [rT, RdL.cons_iff, RdL.nil_iff, Rd.int_iff]
 constructor
 · rintro ⟨_, _, rfl, rfl, _, _, rfl, rfl, _, _, rfl, rfl, rfl⟩; rfl
 · rintro rfl; exact ⟨_, _, rfl, rfl, _, _, rfl, rfl, _, _, rfl, rfl, rfl⟩
theorem eyQ : ElTy Tryz.prog 170 136 3 := .of (by kernel_rfl)
theorem ownQ_sl {a : Option Addr} {c : Nat} {L : List Tm} {och : zab} (o : OwnQ D a c L och) : ∀ h' : zac, (∀ p ∈ och, h'[p.1]? = some p.2) → SlOf encQ 3 h' a L.length c L := by
 intro h' hk
 have hlc := o.len
 rw [z2d] at hlc
 refine ⟨rfl, hlc, fun i x hx => ?_⟩
 have o' : Own D 136 3 a c (L.map rT) och := o
 clear o hlc
 generalize hr : L.map rT = rows at o'
 cases o' with
 | nil => simp at hr; subst hr; simp at hx
 | row b c arr rows v h1 h2 h3 h4 h5 =>
   refine ⟨b, 0, rfl, fun j w hw => ?_⟩
   subst hr
   have hrow : (L.map rT)[i]? = some (rT x) := by simp [hx]
   rw [zaz (hk _ (z2x _)), z2l]
   match j, hw with
   | 0, hw => cases hw; have e1 := h4 i 0 _ _ hrow rfl; have e2 := h5 i 0 _ _ hrow rfl; rw [Rd.int_iff] at e2; rw [e1, e2]
   | 1, hw => cases hw; have e1 := h4 i 1 _ _ hrow rfl; have e2 := h5 i 1 _ _ hrow rfl; rw [Rd.int_iff] at e2; rw [e1, e2]
   | 2, hw => cases hw; have e1 := h4 i 2 _ _ hrow rfl; have e2 := h5 i 2 _ _ hrow rfl; rw [Rd.int_iff] at e2; rw [e1, e2]
abbrev YOf (D : Fz) (l : Nat) (L : List Tm) (Y : Nat → Fz → zab → Prop) : Prop :=
 ∀ k t, L[k]? = some t → ∀ D1 cy Cr h1 R, Y k D1 cy → Le D D1 → St D1 (cy :: Cr) h1 → (∀ D2 cy2 h2, Le D1 D2 → Y (k + 1) D2 cy2 → St D2 (cy2 :: Cr) h2 → R (.bool true) h2) → YRun Tryz.prog l [.agg #[.int .i64 t.1, .int .i64 t.2.1, .int .i64 t.2.2]] h1 R
theorem zsv {a : Option Addr} {n c m1 l : Nat} {L : List Tm} {ch cy : zab} (Y : Nat → Fz → zab → Prop) (hS : ∀ h' : zac, (∀ p ∈ ch, h'[p.1]? = some p.2) → SlOf encQ 3 h' a n c L) (hn : n ≤ 100000) (hY : YOf D l L Y)
 (S : St D (cy :: [(m1, .cells #[.slice a n c] 170 (0, 0))] :: ch :: C) h) (h0 : Y 0 D cy) :
 Run Tryz.prog 175 [.func (.yield l) #[] #[], .pointer (some ⟨m1, 0, none⟩)] h fun v h' => ∃ D' cy', Le D D' ∧ Y L.length D' cy' ∧ St D' (cy' :: [(m1, .cells #[.slice a n c] 170 (0, 0))] :: ch :: C) h' := by
 have hnL : L.length = n := (hS h (S.sub (by simp))).1
 refine V175 _ _ _ _ ?_
 unfold VC175
 (first | refine ⟨_, by assumption, ?_⟩ | refine ⟨_, S.ld0.trans rfl, ?_⟩ | refine ⟨_, _, _, S.ld0.trans rfl, ?_⟩ | refine ⟨_, S.ld1.trans rfl, ?_⟩ | refine ⟨_, _, _, S.ld1.trans rfl, ?_⟩ | refine ⟨_, S.ld2.trans rfl, ?_⟩ | refine ⟨_, _, _, S.ld2.trans rfl, ?_⟩ | refine ⟨_, S.ld3.trans rfl, ?_⟩ | refine ⟨_, _, _, S.ld3.trans rfl, ?_⟩ | refine ⟨_, S.ld4.trans rfl, ?_⟩ | refine ⟨_, _, _, S.ld4.trans rfl, ?_⟩ | refine ⟨_, S.ld5.trans rfl, ?_⟩ | refine ⟨_, _, _, S.ld5.trans rfl, ?_⟩)
 refine ⟨fun z h' => ∃ (i : Nat) (D' : Fz) (cy' : zab), z = i ∧ i ≤ n ∧ Le D D' ∧ Y i D' cy' ∧ St D' (cy' :: [(m1, .cells #[.slice a n c] 170 (0, 0))] :: ch :: C) h', fun z _ => n - z.toNat, ⟨0, D, cy, rfl, by omega, .refl D, h0, S⟩, ?_⟩
 clear S h0
 rintro - h1 z ⟨i, D1, cy1, rfl, hi, l1, y1, S⟩
 refine cIf (fun hlt => ?_) fun hge => ?_
 · have hil : i < L.length := by omega
   refine SlOf.el (hS h1 (S.sub (by simp))) rfl hil fun b o hc => ?_
   refine ⟨by omega, by omega, _, hc 0 _ rfl, _, hc 1 _ rfl, _, hc 2 _ rfl, ?_⟩
   (repeat (first | refine z0k ?_ | refine S.new fun bb hh S => ?_ | refine S.st0 (by rfl) (by rfl) fun hh S => ?_ | refine S.sk0 (by rfl) (by rfl) fun hh S => ?_ | refine S.st1 (by rfl) (by rfl) fun hh S => ?_ | refine S.sk1 (by rfl) (by rfl) fun hh S => ?_ | refine S.st2 (by rfl) (by rfl) fun hh S => ?_ | refine S.sk2 (by rfl) (by rfl) fun hh S => ?_ | refine S.st3 (by rfl) (by rfl) fun hh S => ?_ | refine S.sk3 (by rfl) (by rfl) fun hh S => ?_ | refine ⟨_, by assumption, ?_⟩ | refine ⟨_, S.ld0.trans rfl, ?_⟩ | refine ⟨_, _, _, S.ld0.trans rfl, ?_⟩ | refine ⟨_, S.ld1.trans rfl, ?_⟩ | refine ⟨_, _, _, S.ld1.trans rfl, ?_⟩ | refine ⟨_, S.ld2.trans rfl, ?_⟩ | refine ⟨_, _, _, S.ld2.trans rfl, ?_⟩ | refine ⟨_, S.ld3.trans rfl, ?_⟩ | refine ⟨_, _, _, S.ld3.trans rfl, ?_⟩ | refine ⟨_, S.ld4.trans rfl, ?_⟩ | refine ⟨_, _, _, S.ld4.trans rfl, ?_⟩ | refine ⟨_, S.ld5.trans rfl, ?_⟩ | refine ⟨_, _, _, S.ld5.trans rfl, ?_⟩))
   refine hY i L[i] (z2c hil) D1 cy1 _ _ _ y1 l1 S.swap fun D2 cy2 h2 l2 y2 S => ?_
   refine ⟨_, rfl, rfl, ?_⟩
   rw [w64n (by omega)]
   exact ⟨⟨i + 1, D2, cy2, rfl, by omega, l1.trans l2, y2, S.swap.drop⟩, by simp only [z27]; omega⟩
 · have : i = L.length := by omega
   subst this
   exact ⟨D1, cy1, l1, y1, S⟩
theorem zmt {a : Option Addr} {n c m1 : Nat} {L : List Tm} {ch : zab} (hS : ∀ h' : zac, (∀ p ∈ ch, h'[p.1]? = some p.2) → SlOf encQ 3 h' a n c L) (hn : n ≤ 100000)
 (S : St D ([(m1, .cells #[.slice a n c] 170 (0, 0))] :: ch :: C) h) :
 Run Tryz.prog 191 [.slice none 0 0, .func (.func 175) #[] #[.pointer (some ⟨m1, 0, none⟩)]] h fun v h' => ∃ D' a' c' och, Le D D' ∧ v = .slice a' L.length c' ∧ OwnQ D' a' c' L och ∧ St D' (och :: ch :: C) h' := by
 have hnL : L.length = n := (hS h (S.sub (by simp))).1
 refine V191 _ _ _ _ _ _ ?_
 unfold VC191
 refine S.new fun box h1 S => ?_
 intro oR oB oD
 refine S.new fun dd h2 S => S.new fun lp h3 S => ?_
 intro hy
 let Y : Nat → Fz → zab → Prop := fun k D1 cy => ∃ a' c' och, cy = [(lp, oR)] ++ ([(box, .cells #[.slice a' (L.take k).length c'] 170 (0, 0))] ++ och) ∧ OwnQ D1 a' c' (L.take k) och
 have S1 : St D (([(lp, oR)] ++ ([(box, .cells #[.slice none 0 0] 170 (0, 0))] ++ [])) :: [(m1, .cells #[.slice a n c] 170 (0, 0))] :: ch :: [(dd, .deferred (some []))] :: C) h3 := (S.nil.arr [1, 3, 0, 4, 5, 2] rfl).join3
 refine callV_1 ?_
 show Run Tryz.prog 175 [.func (.yield lp) #[] #[], .pointer (some ⟨m1, 0, none⟩)] h3 _
 refine (zsv Y hS hn (fun k t hk D1 cy Cr h4 R y1 l1 S hR => ?_) S1 ⟨none, 0, [], rfl, .nil⟩).mono ?_
 · obtain ⟨a', c', och, rfl, o1⟩ := y1
   have S := S.split
   refine hy _ _ _ h4 R S.at0 ?_
   refine S.new fun m4 h5 S => ?_
   (first | refine S.st0 (by rfl) (by rfl) fun hh S => ?_ | refine S.sk0 (by rfl) (by rfl) fun hh S => ?_ | refine S.st1 (by rfl) (by rfl) fun hh S => ?_ | refine S.sk1 (by rfl) (by rfl) fun hh S => ?_ | refine S.st2 (by rfl) (by rfl) fun hh S => ?_ | refine S.sk2 (by rfl) (by rfl) fun hh S => ?_ | refine S.st3 (by rfl) (by rfl) fun hh S => ?_ | refine S.sk3 (by rfl) (by rfl) fun hh S => ?_)
   refine ⟨rfl, S.at1, S.set1 fun h6 S => ?_⟩
   have S : St D1 ([(m4, .cells #[.int .i64 t.1, .int .i64 t.2.1, .int .i64 t.2.2] 136 (0, 0))] :: [(lp, oB)] :: [(box, .cells #[.slice a' (L.take k).length c'] 170 (0, 0))] :: och :: Cr) h6 := S.perm (by simp; rfl)
   (repeat (first | refine ⟨_, by assumption, ?_⟩ | refine ⟨_, S.ld0.trans rfl, ?_⟩ | refine ⟨_, _, _, S.ld0.trans rfl, ?_⟩ | refine ⟨_, S.ld1.trans rfl, ?_⟩ | refine ⟨_, _, _, S.ld1.trans rfl, ?_⟩ | refine ⟨_, S.ld2.trans rfl, ?_⟩ | refine ⟨_, _, _, S.ld2.trans rfl, ?_⟩ | refine ⟨_, S.ld3.trans rfl, ?_⟩ | refine ⟨_, _, _, S.ld3.trans rfl, ?_⟩ | refine ⟨_, S.ld4.trans rfl, ?_⟩ | refine ⟨_, _, _, S.ld4.trans rfl, ?_⟩ | refine ⟨_, S.ld5.trans rfl, ?_⟩ | refine ⟨_, _, _, S.ld5.trans rfl, ?_⟩))
   refine S.new fun m5 h7 S => ?_
   have S : St D1 (och :: [(m5, .cells #[.int .i64 t.1, .int .i64 t.2.1, .int .i64 t.2.2] 136 (0, 0))] :: [(lp, oB)] :: [(box, .cells #[.slice a' (L.take k).length c'] 170 (0, 0))] :: [(m4, .cells #[.int .i64 t.1, .int .i64 t.2.1, .int .i64 t.2.2] 136 (0, 0))] :: Cr) h7 := S.arr [4, 0, 2, 3, 1] rfl
   have hkl := (z2a.1 hk).1
   refine app_e eyQ o1 S (src_one S (fun _ => rfl) (rd_Q.2 rfl)) rfl rfl (by simp <;> omega) fun a3 c3 ch3 h8 o3 S3 => ⟨_, _, _, rfl, ?_⟩
   have S := S3
   (first | refine S.st0 (by rfl) (by rfl) fun hh S => ?_ | refine S.sk0 (by rfl) (by rfl) fun hh S => ?_ | refine S.st1 (by rfl) (by rfl) fun hh S => ?_ | refine S.sk1 (by rfl) (by rfl) fun hh S => ?_ | refine S.st2 (by rfl) (by rfl) fun hh S => ?_ | refine S.sk2 (by rfl) (by rfl) fun hh S => ?_ | refine S.st3 (by rfl) (by rfl) fun hh S => ?_ | refine S.sk3 (by rfl) (by rfl) fun hh S => ?_)
   refine ⟨(S.arr [2, 0, 1, 3] rfl).at0, (S.arr [2, 0, 1, 3] rfl).set0 fun h9 S => ?_⟩
   have hp : L.take k ++ [t] = L.take (k + 1) := by rw [List.take_add_one, hk]; rfl
   rw [hp] at o3 S
   refine hR D1 ([(lp, oR)] ++ ([(box, .cells #[.slice a3 (L.take (k + 1)).length c3] 170 (0, 0))] ++ ch3)) h9 (.refl _) ⟨_, _, _, rfl, o3⟩ ?_
   exact (S.arr [2, 4, 0, 3, 1] rfl).drop.drop.join3
 · rintro v h5 ⟨D2, cy, l2, ⟨a', c', och, rfl, o1⟩, S⟩
   have S := S.split3
   refine .inl ⟨S.at0, fun oX => S.set0 fun h6 S => ?_⟩
   (repeat (first | refine ⟨_, by assumption, ?_⟩ | refine ⟨_, S.ld0.trans rfl, ?_⟩ | refine ⟨_, _, _, S.ld0.trans rfl, ?_⟩ | refine ⟨_, S.ld1.trans rfl, ?_⟩ | refine ⟨_, _, _, S.ld1.trans rfl, ?_⟩ | refine ⟨_, S.ld2.trans rfl, ?_⟩ | refine ⟨_, _, _, S.ld2.trans rfl, ?_⟩ | refine ⟨_, S.ld3.trans rfl, ?_⟩ | refine ⟨_, _, _, S.ld3.trans rfl, ?_⟩ | refine ⟨_, S.ld4.trans rfl, ?_⟩ | refine ⟨_, _, _, S.ld4.trans rfl, ?_⟩ | refine ⟨_, S.ld5.trans rfl, ?_⟩ | refine ⟨_, _, _, S.ld5.trans rfl, ?_⟩))
   have S := S.arr [5, 0, 1, 2, 3, 4] rfl
   refine ⟨S.at0, S.set0 fun h7 S => ?_⟩
   rw [z4r] at o1
   refine ⟨D2, a', c', och, l2, by rw [z4r], o1, (S.arr [0, 1, 2, 4, 3, 5] rfl).drop.drop.drop.drop⟩
def sgQ (x y : Int) : Int := if x < y then -1 else if y < x then 1 else 0
def cmpQ (a b : Tm) : Int := if sgQ a.1 b.1 ≠ 0 then sgQ a.1 b.1 else sgQ a.2.1 b.2.1
theorem cmpQ_S (a b : Tm) : PRun Tryz.prog 134 [] [tV a, tV b] fun v _ => v = .i (cmpQ a b) := by
 refine S134 (zr4 ?_)
 rw [zax]
 refine zr4 ?_
 rw [zax]
 refine ⟨by omega, by omega, ?_⟩
 unfold cmpQ sgQ
 by_cases h1 : a.1 < b.1
 · rw [if_pos h1]; rfl
 · by_cases h2 : b.1 < a.1
   · rw [if_neg h1, if_pos h2]; rfl
   · rw [if_neg h1, if_neg h2]
     refine ⟨by omega, by omega, ?_⟩
     by_cases h3 : a.2.1 < b.2.1
     · rw [if_pos h3]; rfl
     · by_cases h4 : b.2.1 < a.2.1
       · rw [if_neg h3, if_pos h4]; rfl
       · rw [if_neg h3, if_neg h4]; rfl
theorem timerSWO : SWO (ltOf cmpQ) where
 irrefl x := by unfold ltOf cmpQ sgQ; simp
 trans x y z h1 h2 := by
  unfold ltOf cmpQ sgQ at *
  simp only [decide_eq_true_eq] at *
  split at h1 <;> split at h2 <;> split <;> omega
 ntrans x y z h1 h2 := by
  unfold ltOf cmpQ sgQ at *
  simp only [decide_eq_false_iff_not] at *
  split at h1 <;> split at h2 <;> split <;> omega
instance : Inhabited Tm := ⟨(0, 0, 0)⟩
theorem callSQ : zbp Tryz.prog 174 := ⟨_, Tryz.func174, by kernel_rfl, by kernel_rfl⟩
theorem callCQ : zbp Tryz.prog 134 := ⟨_, Tryz.func134, by kernel_rfl, by kernel_rfl⟩
theorem zwv {a : Option Addr} {c : Nat} {L : List Tm} {och : zab} (o : OwnQ D a c L och) (S : St D (och :: C) h) (hn : L.length ≤ 100000) :
 Run Tryz.prog 174 [.slice a L.length c, .func (.func 134) #[] #[]] h fun v h' => v = .tuple #[] ∧ ∃ D' och' r, Le D D' ∧ r.Perm L ∧ OwnQ D' a c r och' ∧ St D' (och' :: C) h' := by
 have key : PRun Tryz.prog 174 [.w 136 3 (L.map fun x => ([x.1, x.2.1, x.2.2] : List Int).map U.n)] [.w 0, .f 134 [] []] fun x m => x = .t [] ∧ ∃ r : List Tm, r.Perm L ∧ m = [.w 136 3 (r.map rT)] :=
  sortP (α := Tm) Tryz.sortLT (f := 174) rfl callSQ 3 Tryz.isAgg136 Tryz.sizeOf136 (fun x => [x.1, x.2.1, x.2.2]) (fun _ => rfl) cmpQ timerSWO callCQ (fun x y => cmpQ_S x y) (by omega) fun r hp _ => ⟨rfl, r, hp, rfl⟩
 have M : SAt D [⟨0, a, L.length, c, none⟩] [.w 136 3 (L.map rT)] [och] C h := ⟨rfl, rfl, fun i L' ab ch h1 h2 h3 => by
  cases i with
  | zero => cases h1; cases h2; cases h3; exact .w o (by simp)
  | succ i => simp at h1, S⟩
 refine (key D _ _ C h _ M (.cons (.w (b := 0) rfl) (.cons (.f .nil .nil) .nil))).mono ?_
 rintro v h' ⟨D', ρ', chs', x, m', le, M', hv, rfl, r, hp, rfl⟩
 cases hv with
 | t hv =>
   cases hv
   obtain ⟨L', ch, g1, g2, g3⟩ := M'.get (b := 0) (by simp [mg])
   have hl := M'.lch
   have hr := M'.len
   match ρ', hr with
   | [], _ =>
   match chs', hl, g2 with
   | [c1], _, g2 =>
   cases g1; cases g2
   cases g3 with
   | w o' _ => exact ⟨rfl, D', _, r, le, hp, o', M'.st⟩
theorem ztf {L : List Tm} {most next : Int} {Q : V → Mem → Prop} (K : ∀ ys : List Tm, ys.Perm L → Q (.l 3 (ys.map rT)) [qO L most next]) : PRun Tryz.prog 79 [qO L most next] [.r 0 0] Q := by
 refine PRun.pack (args := []) rfl ?_
 rintro M0 ⟨hL, xs, m, hq, hp, rfl⟩
 intro D ρ chs C h vs M F
 cases F with | cons a1 F =>
 cases F
 obtain ⟨L0, c0, g1, g2, g3⟩ := M.get (b := 0) (by simp [mg])
 obtain ⟨L1, c1, e1, e2, e3⟩ := M.get (b := 1) (by simp [mg])
 cases a1 with
 | r hL0 =>
 rw [g1] at hL0; cases hL0
 cases e3 with
 | w own hn =>
 rw [z2d] at hn
 have lenx : xs.length = L.length := hp.length_eq
 have hb0 := fun h' (S : St D (chs ++ C) h') => S.sub (c := c0) (z64 _ (z2y g2))
 have hb1 := fun h' (S : St D (chs ++ C) h') => S.sub (c := c1) (z64 _ (z2y e2))
 cases g3 with
 | @c arr T l hc =>
 have cell : ∃ (r : Nat) (rest : List Value), arr = .slice L1.a xs.length L1.c :: .map (some r) :: rest := by
  cases hc with
  | cons r0 _ hc =>
    cases hc with
    | cons r1 _ hc =>
      obtain ⟨L1', q1, rfl⟩ := r0.w_inv
      rw [e1] at q1; cases q1
      cases r1 with
      | m _ => exact ⟨_, _, by rw [hn]⟩
 obtain ⟨r, rest, rfl⟩ := cell
 have hblk := hb0 h M.st _ (z2x _)
 refine V79 _ _ _ ?_
 unfold VC79
 refine V98 _ _ _ ?_
 unfold VC98
 refine ⟨_, by rw [zaz hblk]; rfl, ?_⟩
 refine ⟨_, rfl, ?_⟩
 refine ⟨_, _, _, by rw [zaz hblk]; rfl, ?_⟩
 refine V133 _ _ _ _ _ ?_
 unfold VC133
 obtain ⟨i1, i2⟩ := z2a.1 e2
 have S0 : St D (c1 :: (chs ++ C).eraseIdx 1) h := M.front e2
 refine S0.new fun m1 h2 S => ?_
 refine ⟨_, rfl, ?_⟩
 refine V132 _ _ _ _ ?_
 unfold VC132
 refine V173 _ _ _ ?_
 unfold VC173
 refine (zmt (ownQ_sl own) (by omega) S).mono ?_
 rintro v h3 ⟨D1, a1, cc1, och, l1, rfl, o1, S⟩
 refine ⟨_, _, _, rfl, _, _, _, rfl, ?_⟩
 refine (zwv o1 S (by omega)).mono ?_
 rintro v h4 ⟨rfl, D2, och2, r2, l2, hp2, o2, S⟩
 obtain ⟨D3, l3, S, hx⟩ := o2.freeze S
 rw [z2d, hp2.length_eq] at hx
 have le := (l1.trans l2).trans l3
 have M' := M.mono le (C' := C) (h' := h4) (S.perm (by
  have := zg4 (C := chs ++ C) (i := 1) (c := c1) (zan e2)
  exact this.symm))
 refine ⟨rfl, _, _, _, rfl, D3, [], chs, .u (.l 3 (r2.map rT)), _, le, by rw [z3a]; exact M', .u hx, rfl, qM xs m most next, qS L most next, .refl _, ⟨hL, xs, m, hq, hp, rfl⟩, K r2 (hp2.trans hp)⟩
end
end
section
open Go.ChangeShapes Go.WideShapes Go.ChangeAt Go.RowKit
theorem Tryz.own : ownKnob Tryz.prog.godebug = none := by kernel_rfl
theorem Tryz.laidOut : laidOutB Tryz.prog = true := by kernel_rfl
theorem belowOf {W W' : World} (k : Keep W.heap W'.heap) (s : Same W W') : RowKit.Below W.heap.size W W' :=
 ⟨s.os, s.tape, s.output, k.size, fun b hb => k.blk b hb (by simp)⟩
theorem rp_slice {D : Fz} {a : Option Addr} {n c : Nat} {u : U} (h : RdL D (Value.slice a n c).cells.toList [u]) : Rp D [] (.slice a n c) (.u u) := by
 have h : RdL D [.slice a n c] [u] := h
 cases h with | cons a _ => exact .u a
theorem zz3 {D : Fz} {v : Value} {x : U} (hv : ∀ cs, v ≠ .agg cs) (h : RdL D v.cells.toList [x]) : Rd D v x := by
 have e : v.cells.toList = [v] := by cases v <;> first | rfl | exact absurd rfl (hv _)
 rw [e] at h
 cases h with | cons a _ => exact a
theorem rd_int {P : Program} {w : World} {r : Reach} {b t : Nat} {v : Value} {k : IntKind} {D : Fz} {x : U} (hv : Value.okWide P w r b t v) (hu : P.underlying t = some (.int k)) (h : RdL D v.cells.toList [x]) : Rd D v x := by
 refine zz3 (fun cs e => ?_) h
 subst e
 unfold Value.okWide at hv
 rw [hu] at hv
 simp only [Cell.okWide, hu, Cell.ok] at hv
theorem SAt.all (h : zac) : SAt (zp0 h) [] [] [] [] h := ⟨rfl, rfl, fun i L ab ch h => by simp at h, by simpa using St.all h⟩
end
section
set_option maxRecDepth 1000000
variable {Q : V → Mem → Prop}
theorem scaleD_S {a b c : Nat} (ha : a ≤ 9223372036854775807) (hb : b ≤ 9223372036854775807) (hc : c ≤ 9223372036854775807) (h1 : 1 ≤ c)
 (hm : a * b / c ≤ 9223372036854775807) (k : Q (.t [.i ((a * b / c : Nat) : Int), .i 0]) []) :
 PRun Tryz.prog 106 [] [.i (a : Int), .i (b : Int), .i (c : Int), .u (.b false)] Q := by
 refine S106 (cIf (fun h => by omega) fun _ => cIf (fun h => by omega) fun _ => cIf (fun h => by omega) fun _ => ?_)
 rw [za0 (x := (a : Int)) (by omega) (by omega), za0 (x := (b : Int)) (by omega) (by omega), za0 (x := (c : Int)) (by omega) (by omega)]
 refine z0s a b (by omega) (by omega) ?_
 rw [zoo]
 have hp := Nat.div_add_mod (a * b) 18446744073709551616
 generalize a * b = p at *
 have hpc : p < 9223372036854775808 * c := by
  have := (Nat.div_lt_iff_lt_mul (x := p) (y := 9223372036854775808) (k := c) (by omega)).1 (by omega)
  omega
 refine cIf (fun hq => ?_) fun hq => ?_
 · have : c ≤ p / 18446744073709551616 := by omega
   have := z63 18446744073709551616 this
   omega
 refine z12 (by omega) (Nat.mod_lt _ (by omega)) (by omega) fun Q r hQ hr e => ?_
 rw [zoo]
 have e2 : Q * c + r = p := by omega
 have hQ2 : Q ≤ 9223372036854775807 := by
  refine Nat.not_lt.1 fun hlt => ?_
  have := z3e c (show 9223372036854775808 ≤ Q by omega)
  omega
 have hk : p / c = Q := by
  rw [z6p (by omega)]
  omega
 rw [hk] at hm k
 rw [cond_false]
 refine cIf (fun h => by omega) fun _ => ?_
 rw [w64 (by omega) (by omega)]
 exact k
theorem feeC_S : PRun Tryz.prog 104 [] [.a [.i 200, .i 1, .i 500]] fun x m => x = .i 0 ∧ m = [] :=
 zgn zf4 (zal whp) (inl := z2b 600) (nl := 300) (n := 60) Tryz.func104 (by kernel_rfl) (r := (.i 0, [])) (by kernel_rfl)
theorem zvl {n : Int} (k : Q (.u (.b (decide (n ≥ 0) && decide (n ≤ 1152921504606846976)))) []) : PRun Tryz.prog 105 [] [.i n] Q := by
 refine S105 ?_
 generalize hk : (fun b => Q (.u (.b b)) []) = q
 have e : ∀ b, Q (.u (.b b)) [] = q b := fun b => by rw [← hk]
 rw [e] at k
 simp only [e]
 exact zoz k fun h => h
def zl4 (n : Int) : Int := if 1 > (n * 200 + 9999) / 10000 then 1 else (n * 200 + 9999) / 10000
theorem zt1 {n : Int} (h : 0 ≤ n ∧ n ≤ 1152921504606846976) : 1 ≤ zl4 n ∧ zl4 n ≤ 1152921504606846976 := by
 unfold zl4
 split <;> omega
theorem brok_S {n : Int} (h0 : 0 ≤ n) (hn : n ≤ 2305843009213693952) (k1 : 1152921504606846976 < n → Q (.t [.i 0, .i 1]) []) (k2 : n ≤ 1152921504606846976 → Q (.t [.i (zl4 n), .i 0]) []) : PRun Tryz.prog 89 [] [.a [.i 200, .i 1, .i 500], .i n] Q := by
 refine S89 (feeC_S.mono ?_)
 rintro _ _ ⟨rfl, rfl⟩
 rw [zax]
 refine cNe (fun h => absurd rfl h) fun _ => zvl ?_
 rw [zci, decide_eq_true (show n ≥ 0 from h0), z4l]
 by_cases hc : n ≤ 1152921504606846976
 · rw [decide_eq_true hc]
   simp only [z3s, cond_false]
   have e : upI (n * 200) 10000 = (n * 200 + 9999) / 10000 := by unfold upI; rw [show n * 200 + 10000 - 1 = n * 200 + 9999 by omega]
   refine scaleI_S (by omega) (by decide) (by decide) (by rw [e]; omega) ?_
   rw [zbk, e]
   exact k2 hc
 · rw [decide_eq_false hc]
   exact k1 (by omega)
theorem sale_S {n : Int} (h : 0 ≤ n ∧ n ≤ 1152921504606846976) (k : Q (.t [.i (n * 500 / 10000), .i 0]) []) : PRun Tryz.prog 51 [] [.a [.i 200, .i 1, .i 500], .i n] Q := by
 refine S51 (feeC_S.mono ?_)
 rintro _ _ ⟨rfl, rfl⟩
 rw [zax]
 refine cNe (fun h => absurd rfl h) fun _ => zvl ?_
 rw [zci, decide_eq_true (show n ≥ 0 from h.1), decide_eq_true h.2]
 simp only [Bool.and_self, z3s, cond_false]
 obtain ⟨m, rfl⟩ := z4e h.1
 have e : ((m * 500 / 10000 : Nat) : Int) = (m : Int) * 500 / 10000 := by omega
 refine scaleD_S (a := m) (b := 500) (c := 10000) (by omega) (by decide) (by decide) (by decide) (by omega) ?_
 rw [zbk, e]
 exact k
end
section
set_option maxRecDepth 1000000
variable {Q : V → Mem → Prop}
theorem PRun.uncV {P : Program} {m : Mem} {g : FuncId} {args : List V} {Q : V → Mem → Prop} (hh : PRun P g m args fun x m' => Q (YtalglagdgabafaaGreat.unc x) (m'.map uncA)) : PRun P g m args Q := by
 intro D ρ chs C h vs M F
 refine (hh D ρ chs C h vs M F).mono ?_
 rintro v h' ⟨D', s, chs', x, m', le, M', hv, hq⟩
 exact ⟨D', s, chs', YtalglagdgabafaaGreat.unc x, m'.map uncA, le, M'.unc, unc_S hv, hq⟩
theorem zpc {r : List (List U)} (hl : r.length ≤ 1000) (K : Q (.l 2 r) []) : PRun Tryz.prog 56 [] [.l 2 r] Q := by
 refine PRun.uncV (S56 ?_)
 have ap : zbo [] r := by unfold zbo; simp; omega
 cases r with
 | nil => exact ⟨K, ap, K⟩
 | cons a r => exact ⟨ap, K⟩
structure Ct where
 c0 : Int
 c1 : List (List U)
 c2 : Int
 c3 : List (List U)
 c4 : Int
abbrev mkC (C : Ct) (w : Nat) : AB := .c [.i C.c0, .l 7 C.c1, .i C.c2, .l 4 C.c3, .i C.c4, .i 200, .i 1, .i 500, .r 1 0, .r 2 0, .r 3 0, .r 4 0, .w w]
abbrev M5 (C : Ct) (p : Tb) (pn : Int) (b : Tb) (G L : Ob) (ds : List Dl) : Mem := [mkC C 5, pC p pn, bK b, .o G, .o L, .w 33 19 (ds.map zda)]
abbrev M6 (C : Ct) (p : Tb) (pn : Int) (b : Tb) (G L : Ob) (ds : List Dl) : Mem := [mkC C 6, pC p pn, bK b, .o G, .o L, .x, .w 33 19 (ds.map zda)]
abbrev patM : List BP := [.c [.i .i64, .l 7, .i .i64, .l 4, .i .i64, .i .i64, .i .i64, .i .i64, .r 1 0, .r 2 0, .r 3 0, .r 4 0, .ow 33 19], .c [.l 5, .i .i64], .c [.l 5, .n 33], .A, .A, .X]
abbrev FM := Int → List (List U) → Int → List (List U) → Int → Int → Int → Int → List (List U) → List (List U) → Int → List (List U) → List Int → Ob → Ob → Prop
section
variable {C : Ct} {p : Tb} {pn : Int} {b : Tb} {G L : Ob} {ds : List Dl}
theorem zej {F : Int → Int → Int → Int → Int → Int → Int → Int → Int → Int → Int → Int → Int → List (List U) → List (List U) → Int → Int → Int → Int → Int → FM} {d : Dl} {e : Int} :
 post [.agg [.i .i64, .i .i64, .i .i64, .i .i64, .i .i64, .i .i64, .i .i64, .i .i64, .i .i64, .i .i64, .i .i64, .i .i64, .i .i64, .l 2, .l 2, .i .i64, .i .i64, .i .i64, .i .i64], .I] patM F (.t [dV d, .i e]) (M5 C p pn b G L ds) =
 F d.id d.kind d.iss d.div d.bye d.to d.place d.dest d.pay d.pledge d.lasts d.days d.fee (d.gives.map eS) (d.wants.map eS) d.st d.due d.taker d.into e C.c0 C.c1 C.c2 C.c3 C.c4 200 1 500 (ds.map zda) (p.map eT) pn (b.map eT) (zgb b) G L := rfl
theorem zz8 {F : Bool → FM} {e : Bool} : post [.B] patM F (.u (.b e)) (M5 C p pn b G L ds) = F e C.c0 C.c1 C.c2 C.c3 C.c4 200 1 500 (ds.map zda) (p.map eT) pn (b.map eT) (zgb b) G L := rfl
theorem zgg {F : Int → FM} {e : Int} : post [.I] patM F (.i e) (M6 C p pn b G L ds) = F e C.c0 C.c1 C.c2 C.c3 C.c4 200 1 500 (ds.map zda) (p.map eT) pn (b.map eT) (zgb b) G L := rfl
theorem zz9 {F : FM} : post [] patM F (.t []) (M5 C p pn b G L ds) = F C.c0 C.c1 C.c2 C.c3 C.c4 200 1 500 (ds.map zda) (p.map eT) pn (b.map eT) (zgb b) G L := rfl
def shD (d : Dl) : Prop := d.gives.length ≤ 1000 ∧ d.wants.length ≤ 1000
theorem zv8 {id : Int} (hw : ∀ d ∈ ds, shD d) (hl : ds.length ≤ 1000) (k1 : (id < 1 ∨ (ds.length : Int) < id) → Q (.t [dV dZ, .i 3]) (M5 C p pn b G L ds))
 (k2 : ∀ (i : Nat) (d : Dl), ds[i]? = some d → id = i + 1 → Q (.t [dV d, .i 0]) (M5 C p pn b G L ds)) : PRun Tryz.prog 12 (M5 C p pn b G L ds) [.r 0 0, .i id] Q := by
 have hlen : ((ds.map zda).length : Int) = (ds.length : Int) := by rw [z2d]
 refine S12 (cIf (fun h => k1 (.inl h)) fun h1 => ?_)
 rw [hlen]
 refine cIf (fun h => k1 (.inr (by omega))) fun h2 => ?_
 rw [w64 (x := id - 1) (by omega) (by omega)]
 refine ⟨by omega, by omega, ?_⟩
 obtain ⟨i, hi⟩ := z4e (show 0 ≤ id - 1 by omega)
 have hlt : i < ds.length := by omega
 have hg := z2c hlt
 rw [zav (r := zda ds[i]) (by omega) (by rw [hi, z27, z2i, hg]; rfl)]
 simp only [dDx, zda, ug0, ugs, zcs, dL_l]
 have hs := hw _ (z4y hlt)
 refine zpc (by rw [z2d]; exact hs.1) ?_
 rw [znd]
 refine zpc (by rw [z2d]; exact hs.2) ?_
 rw [znd]
 exact k2 i ds[i] hg (by omega)
theorem deals_S (hw : ∀ d ∈ ds, shD d) (hl : ds.length ≤ 1000) (K : Q (.l 19 (ds.map zda)) (M6 C p pn b G L ds)) : PRun Tryz.prog 17 (M5 C p pn b G L ds) [.r 0 0] Q := by
 have hlen : ((ds.map zda).length : Int) = (ds.length : Int) := by rw [z2d]
 refine S17 ⟨fun o x a1 a2 a3 a4 a5 a6 a7 a8 r1 r2 x8 r3 t X1 X2 => ∃ i : Nat, x = (i : Int) ∧ i ≤ ds.length ∧ o = (ds.take i).map zda ∧ C.c0 = a1 ∧ C.c1 = a2 ∧ C.c2 = a3 ∧ C.c3 = a4 ∧ C.c4 = a5 ∧ 200 = a6 ∧ 1 = a7 ∧ 500 = a8 ∧ ds.map zda = r1 ∧ p.map eT = r2 ∧ pn = x8 ∧ b.map eT = r3 ∧ zgb b = t ∧ G = X1 ∧ L = X2,
  fun _ x _ _ _ _ _ _ _ _ _ _ _ _ _ _ _ => (ds.length - x).toNat, ⟨0, rfl, z3j _, rfl, rfl, rfl, rfl, rfl, rfl, rfl, rfl, rfl, rfl, rfl, rfl, rfl, rfl, rfl, rfl⟩, ?_⟩
 rintro _ _ _ _ _ _ _ _ _ _ _ _ _ _ _ _ _ ⟨i, rfl, hi, rfl, rfl, rfl, rfl, rfl, rfl, rfl, rfl, rfl, rfl, rfl, rfl, rfl, rfl, rfl, rfl⟩
 rw [hlen]
 refine cIf (fun hc => ?_) fun hc => ?_
 · have hlt : i < ds.length := by omega
   have e1 : z13 .i64 ((i : Int) + 1) = ((i + 1 : Nat) : Int) := by rw [w64 (by omega) (by omega)]; omega
   rw [e1]
   refine zv8 hw hl (fun h => by omega) fun j d hg hj => ?_
   have : j = i := by omega
   subst this
   rw [zej]
   have e2 : (ds.take j).map zda ++ [zda d] = (ds.take (j + 1)).map zda := by
    rw [List.take_add_one, hg, z28]; rfl
   refine ⟨?_, ⟨j + 1, rfl, by omega, e2, by first | trivial | rfl, by first | trivial | rfl, by first | trivial | rfl, by first | trivial | rfl, by first | trivial | rfl, by first | trivial | rfl, by first | trivial | rfl, by first | trivial | rfl, by first | trivial | rfl, by first | trivial | rfl, by first | trivial | rfl, by first | trivial | rfl, by first | trivial | rfl, by first | trivial | rfl, by first | trivial | rfl⟩, ?_⟩
   · unfold zbo; simp; omega
   · dsimp only; omega
 · have : i = ds.length := by omega
   subst this
   rw [z4r]
   exact K
theorem lie_S {x : K4} {S : List Stk} (h : BInv b) (hb : b.length ≤ 900000) (hS : S.length ≤ 1000) (K : Q (.u (.b (S.all fun s => decide (s.2 ≤ zag (bin x s.1) b)))) (M5 C p pn b G L ds)) :
 PRun Tryz.prog 39 (M5 C p pn b G L ds) [.r 0 0, kV x, .l 2 (S.map eS)] Q := by
 refine S39 ⟨fun y l' a' x2 x3 x4 x5 => SufI S (fun r => b.map eT = l' ∧ zgb b = a' ∧ x.a = x2 ∧ x.b = x3 ∧ x.c = x4 ∧ (r.all fun s => decide (s.2 ≤ zag (bin x s.1) b)) = S.all fun s => decide (s.2 ≤ zag (bin x s.1) b)) y, fun y _ _ _ _ _ _ => zmv S y, .zero (by omega) ⟨rfl, rfl, rfl, rfl, rfl, rfl⟩, ?_⟩
 rintro y _ _ _ _ _ x5 ⟨r, s, rfl, rfl, rfl, rfl, rfl, ha⟩
 cases r with
 | nil =>
   rw [s.d0, cond_false]
   rw [← ha] at K
   exact K
 | cons q r =>
   have hlt := s.lt
   simp only [s.d1, s.el, eS, ug0, ugs, zcs, cond_true]
   refine qty_S (k := bin x q.1) h.srt (by omega) ?_
   show (bif decide (zag (bin x q.1) b < q.2) then _ else _ : Prop)
   refine cIf (fun hc => ?_) fun hc => ?_
   · have : (S.all fun s => decide (s.2 ≤ zag (bin x s.1) b)) = false := by
      rw [← ha, List.all_cons, decide_eq_false (by omega), Bool.false_and]
     rw [this] at K
     have e : (!(decide (y ≥ 0))) = false := by rw [decide_eq_true (show y ≥ 0 by omega)]; rfl
     rw [e]
     exact K
   · refine s.step ⟨by first | trivial | rfl, by first | trivial | rfl, by first | trivial | rfl, by first | trivial | rfl, by first | trivial | rfl, ?_⟩
     rw [← ha, List.all_cons, decide_eq_true (by omega), z4l]
end
end
section
set_option maxRecDepth 1000000
variable {Q : V → Mem → Prop}
section
variable {C : Ct} {p : Tb} {pn : Int} {b : Tb} {G L : Ob} {ds : List Dl}
def zpz (d : Dl) (n : Nat) (now : Int) : Dl := { zr1 { d with id := n + 1, fee := 0 } now with fee := zl4 (d.pay + d.pledge) }
structure DrwF (C : Ct) (p : Tb) (n : Nat) (d : Dl) (now : Int) : Prop where
 t0 : 0 ≤ now
 t1 : now ≤ 1099511627776
 ok : dOk (zpz d n now) = true
 has : zb5 d.iss p = true
 room : n < 64
 sum : d.pay + d.pledge ≤ 1152921504606846976
theorem chk88_S {l : List Stk} {t : Int} (hl : l.length ≤ 1000) (k : ∀ e, Q (.i e) []) : PRun Tryz.prog 88 [] [.l 2 (l.map eS), .i t] Q := by
 exact zg7 (by omega) (k _)
theorem drawn_S {d : Dl} {now : Int} (hp : PInv p pn) (hpl : p.length ≤ 800000) (hn : ds.length ≤ 1000) (h1 : d.gives.length ≤ 1000) (h2 : d.wants.length ≤ 1000)
 (k1 : ∀ (d' : Dl) e, e ≠ 0 → Q (.t [dV d', .i e]) (M5 C p pn b G L ds)) (k2 : DrwF C p ds.length d now → Q (.t [dV (zpz d ds.length now), .i 0]) (M5 C p pn b G L ds)) :
 PRun Tryz.prog 36 (M5 C p pn b G L ds) [.r 0 0, .i now, dV d] Q := by
 refine S36 ?_
 refine zpc (by rw [z2d]; exact h1) ?_
 rw [znd]
 refine zpc (by rw [z2d]; exact h2) ?_
 rw [znd]
 have eid : z13 .i64 (((ds.map zda).length : Int) + 1) = ((ds.length : Nat) : Int) + 1 := by rw [z2d, w64 (by omega) (by omega)]
 rw [eid]
 refine dOpen_S (d := { d with id := (ds.length : Nat) + 1, fee := 0 }) (by simp only; omega) (by simp only; omega) (fun e he => ?_) fun t0 t1 hok => ?_
 · rw [zh8]
   exact cNe (fun _ => k1 dZ 1 (by decide)) fun h => absurd h he
 rw [zh8]
 have ho := zcc hok
 have hgl : (zr1 { d with id := (ds.length : Nat) + 1, fee := 0 } now).gives = d.gives := rfl
 refine cNe (fun h => absurd rfl h) fun _ => cIf (fun _ => k1 (zr1 { d with id := (ds.length : Nat) + 1, fee := 0 } now) 1 (by decide)) fun _ => ?_
 refine chk88_S (l := d.gives) h1 fun e => ?_
 rw [zax]
 refine cNe (fun _ => k1 (zr1 { d with id := (ds.length : Nat) + 1, fee := 0 } now) 1 (by decide)) fun _ => ?_
 refine chk88_S (l := d.wants) h2 fun e => ?_
 rw [zax]
 refine cNe (fun _ => k1 (zr1 { d with id := (ds.length : Nat) + 1, fee := 0 } now) 1 (by decide)) fun _ => ?_
 intro k hk
 have hpay : 0 ≤ d.pay ∧ d.pay ≤ 1152921504606846976 := ho.pay
 have hple : 0 ≤ d.pledge ∧ d.pledge ≤ 1152921504606846976 := by
  rcases ho.kind with hh | hh
  · exact ⟨hh.2.2.2.2.2.1, hh.2.2.2.2.2.2.1⟩
  · have : d.pledge = 0 := hh.2
    omega
 have hiss : 1 ≤ d.iss ∧ d.iss ≤ 1099511627776 := ho.iss
 have fin : zb5 d.iss p = true → k (p.map eT) pn 0 0 0 0 0 0 0 0 0 0 0 0 0 [] [] 0 0 0 0 := fun hhas => by
  refine hk _ _ _ _ _ _ _ _ _ _ _ _ _ _ _ _ _ _ _ _ _ (cIf (fun _ => k1 (zr1 { d with id := (ds.length : Nat) + 1, fee := 0 } now) 4 (by decide)) fun hr => ?_)
  have e1 : z13 .i64 (d.pay + d.pledge) = d.pay + d.pledge := w64 (by omega) (by omega)
  rw [show (zr1 { d with id := (ds.length : Nat) + 1, fee := 0 } now).pay = d.pay from rfl, show (zr1 { d with id := (ds.length : Nat) + 1, fee := 0 } now).pledge = d.pledge from rfl, e1]
  refine brok_S (by omega) (by omega) (fun hb => ?_) fun hb => ?_
  · rw [zbk]
    exact cNe (fun _ => k1 { zr1 { d with id := (ds.length : Nat) + 1, fee := 0 } now with fee := 0 } 5 (by decide)) fun h => absurd h (by decide)
  · rw [zbk]
    refine cNe (fun h => absurd rfl h) fun _ => k2 ⟨t0, t1, ?_, hhas, ?_, hb⟩
    · have hf := zt1 (n := d.pay + d.pledge) ⟨by omega, hb⟩
      unfold zpz dOk at *
      simp only [z17] at hok ⊢
      refine ⟨hok.1, ?_, hok.2.2⟩
      have hw := hok.2.1
      simp only [dWhat, zr1, z17, decide_eq_true_eq] at hw ⊢
      exact ⟨hw.1, hw.2.1, hw.2.2.1, hw.2.2.2.1, by omega, by omega, hw.2.2.2.2.2.2.1, hw.2.2.2.2.2.2.2⟩
    · have : ((zr1 { d with id := (ds.length : Nat) + 1, fee := 0 } now).id : Int) = (ds.length : Nat) + 1 := rfl
      rw [this] at hr
      omega
 refine ⟨by omega, by omega, ?_⟩
 refine zdj hp.srt (by omega) ?_
 show (bif d.iss != 0 then (bif (if (zaq (oK d.iss) p).isSome = true then (0 : Int) else 3) != 0 then _ else _) else _ : Prop)
 refine cNe (fun _ => ?_) fun h => by omega
 by_cases hg : (zaq (oK d.iss) p).isSome = true
 · rw [if_pos hg]
   refine cNe (fun h => absurd rfl h) fun _ => ⟨by omega, by omega, ?_⟩
   refine zdj hp.srt (by omega) ?_
   show (bif d.to != 0 then (bif (if (zaq (oK d.to) p).isSome = true then (0 : Int) else 3) != 0 then _ else _) else _ : Prop)
   refine cNe (fun _ => cNe (fun _ => k1 (zr1 { d with id := (ds.length : Nat) + 1, fee := 0 } now) 3 (by decide)) fun _ => fin hg) fun _ => fin hg
 · rw [if_neg hg]
   exact cNe (fun _ => k1 (zr1 { d with id := (ds.length : Nat) + 1, fee := 0 } now) 3 (by decide)) fun h => absurd h (by decide)
end
end
section
set_option maxRecDepth 1000000
variable {Q : V → Mem → Prop}
theorem zth {F : List (List U) → Ob → Prop} {r : List (List U)} {X : Ob} : post [.L 3] [.A] F (.l 3 r) [.o X] = F r X := rfl
theorem zti {F : Int → Ob → Prop} {n : Int} {X : Ob} : post [.I] [.A] F (.i n) [.o X] = F n X := rfl
theorem zvd {F : Int → Int → Ob → Prop} {n n' : Int} {X : Ob} : post [.I, .I] [.A] F (.t [.i n, .i n']) [.o X] = F n n' X := rfl
theorem post_L3I {F : List (List U) → Int → Prop} {r : List (List U)} {n : Int} : post [.L 3, .I] [] F (.t [.l 3 r, .i n]) [] = F r n := rfl
theorem ze8 {F : Int → List (List U) → Int → Prop} {e : Int} {r : List (List U)} {n : Int} : post [.I] [.c [.l 5, .i .i64]] F (.i e) [.c [.l 5 r, .i n]] = F e r n := rfl
theorem zvc {F : Int → Int → List (List U) → Int → Prop} {e e' : Int} {r : List (List U)} {n : Int} : post [.I, .I] [.c [.l 5, .i .i64]] F (.t [.i e, .i e']) [.c [.l 5 r, .i n]] = F e e' r n := rfl
theorem zo3 : ∀ {T : List Tm}, (T.Pairwise fun a b => a.2.1 ≠ b.2.1) → ∀ {a b : Tm}, a ∈ T → b ∈ T → a.2.1 = b.2.1 → a = b
 | [], _, _, _, ha, _, _ => by simp at ha
 | t :: T, h, a, b, ha, hb, e => by
   have h2 := z3l.1 h
   rcases z2e.1 ha with rfl | ha' <;> rcases z2e.1 hb with rfl | hb'
   · rfl
   · exact absurd e (h2.1 b hb')
   · exact absurd e.symm (h2.1 a ha')
   · exact zo3 h2.2 ha' hb' e
def PayF (d : Dl) (st tax : Int) (p p' : Tb) : Prop :=
 (ze9 (zf5 d st tax) (zag (oK (vO d.id)) p) ∧ (∀ x ∈ zf5 d st tax, zb5 x.2.1 p = true) ∧ p' = zgh (vO d.id) (zf5 d st tax) p) ∨ (¬ (ze9 (zf5 d st tax) (zag (oK (vO d.id)) p) ∧ ∀ x ∈ zf5 d st tax, zb5 x.2.1 p = true) ∧ p' = p)
def TimF (T : List Tm) (w : Int) (T' : List Tm) : Prop := (∃ t : Tm, (t :: T').Perm T ∧ t.2.2 = w) ∨ ((∀ t ∈ T, t.2.2 ≠ w) ∧ T' = T)
theorem dPays_len (d : Dl) (st tax : Int) : (zf5 d st tax).length ≤ 2 := Nat.le_trans (z44 _ _) (zr0 d st tax)
section
variable {C : Ct} {p : Tb} {pn : Int} {b : Tb} {T : List Tm} {Lg : List Mk} {ds : List Dl} {most next : Int}
theorem ends_S {d e : Dl} {st now tax : Int} (hp : PInv p pn) (hpl : p.length ≤ 800000) (hn : ds.length ≤ 1000) (hs : shD d) (hc : dOk d = true) (htx : 0 ≤ tax ∧ tax ≤ d.pay) (h3 : zfi d st = true ∨ (tax = 0 ∧ zja d st = true))
 (hid : d.id ≤ ds.length) (hT : T.Pairwise fun a b => a.2.1 ≠ b.2.1) (hTl : T.length ≤ 1000)
 (K : ∀ p' T', PayF d st tax p p' → PInv p' pn → p'.length = p.length → TimF T (2 * d.id + 1) T' → Q (.t []) (M5 C p' pn b (Ob.of (qS T' most next)) (Ob.of (zfw (zx2 Lg (now, 2, d.id, st)))) (ds.set (d.id - 1).toNat e))) :
 PRun Tryz.prog 55 (M5 C p pn b (Ob.of (qS T most next)) (Ob.of (zfw Lg)) ds) [.r 0 0, .a [.i d.id, .i d.kind, .i d.iss, .i d.div, .i d.bye, .i d.to, .i d.place, .i d.dest, .i d.pay, .i d.pledge, .i d.lasts, .i d.days, .i d.fee, .l 2 (d.gives.map eS), .l 2 (d.wants.map eS), .i d.st, .i d.due, .i d.taker, .i d.into, .i st, .i now, .i tax], dV e] Q := by
 have ho := zcc hc
 have hid1 := ho.id
 have hlen : ((ds.map zda).length : Int) = (ds.length : Int) := by rw [z2d]
 refine S55 ?_
 intro k hk
 have w1 : z13 .i64 (d.id - 1) = d.id - 1 := w64 (by omega) (by omega)
 have w2 : z13 .i64 (z13 .i64 (2 * d.id) + 1) = 2 * d.id + 1 := by rw [w64 (x := 2 * d.id) (by omega) (by omega), w64 (by omega) (by omega)]
 rw [w1, w2, hlen] at hk
 have go : ∀ p' : Tb, PayF d st tax p p' → PInv p' pn → p'.length = p.length → k (p'.map eT) pn := fun p' hpay hi hln => by
  refine hk _ _ ⟨by omega, by omega, ?_⟩
  have hset : (ds.map zda).set (d.id - 1).toNat (zda e) = (ds.set (d.id - 1).toNat e).map zda := by rw [z43]
  have e1 : z2q (ds.map zda) (z16 (d.id - 1)) [.n e.id, .n e.kind, .n e.iss, .n e.div, .n e.bye, .n e.to, .n e.place, .n e.dest, .n e.pay, .n e.pledge, .n e.lasts, .n e.days, .n e.fee, .l 2 (e.gives.map eS), .l 2 (e.wants.map eS), .n e.st, .n e.due, .n e.taker, .n e.into] = (ds.set (d.id - 1).toNat e).map zda := hset
  rw [e1]
  refine ztf fun ys hys => ?_
  rw [zth]
  have hyl := hys.length_eq
  refine ⟨fun x X => SufI ys (fun r => Ob.of (qS T most next) = X ∧ (∀ t ∈ r, t ∈ T) ∧ ∀ t ∈ T, t.2.2 = 2 * d.id + 1 → t ∈ r) x, fun x _ => zmv ys x, .zero (by omega) ⟨rfl, fun t ht => hys.mem_iff.1 ht, fun t ht _ => hys.mem_iff.2 ht⟩, ?_⟩
  rintro x _ ⟨r, s, rfl, hr1, hr2⟩
  cases r with
  | nil =>
    rw [s.d0, cond_false]
    refine addM_S (x := (now, 2, d.id, st)) ?_
    rw [zti]
    exact K p' T hpay hi hln (.inr ⟨fun t ht e => by have := hr2 t ht e; simp at this, rfl⟩)
  | cons q r =>
    simp only [s.d1, s.el, rT, ug0, ugs, zcs, cond_true]
    refine cEq (fun hq => ?_) fun hq => s.step ⟨by first | trivial | rfl, fun t ht => hr1 t (z2j _ ht), fun t ht e => ?_⟩
    · refine cancel_S (fun hno => absurd rfl (hno q (hr1 q z2p))) fun t T' hpm ht => ?_
      rw [zti]
      refine addM_S (x := (now, 2, d.id, st)) ?_
      rw [zti]
      have hqt : t = q := zo3 hT (hpm.mem_iff.1 z2p) (hr1 q z2p) ht
      exact K p' T' hpay hi hln (.inl ⟨t, hpm, by rw [hqt]; exact hq⟩)
    · rcases z2e.1 (hr2 t ht e) with rfl | h
      · exact absurd e hq
      · exact h
 refine shares_S (d := d) (s := st) (tax := tax) (by have := hs.1; omega) (by have := hs.2; omega) hc htx h3 ?_
 rw [post_L3I]
 refine cEq (fun _ => ?_) fun h => absurd rfl h
 have hdl := dPays_len d st tax
 refine payOut_S (ps := zf5 d st tax) hp hpl (by omega) (by omega) (fun e hbad => ?_) fun hok hall hi hln => ?_
 · rw [ze8]
   exact go p (.inr ⟨hbad, rfl⟩) hp rfl
 · rw [ze8]
   exact go _ (.inl ⟨hok, hall, rfl⟩) hi hln
end
end
section
set_option maxRecDepth 1000000
variable {Q : V → Mem → Prop}
theorem post_LIb {F : List (List U) → Int → List (List U) → List Int → Prop} {e : Int} {l r : List (List U)} {a : List Int} : post [.L 2, .I] [.c [.l 5, .n 33]] F (.t [.l 2 l, .i e]) [.c [.l 5 r, .n .i64 33 a]] = F l e r a := rfl
def toK (d : Dl) (st : Int) : K4 := if st = 3 then ⟨d.iss, d.div, d.dest, 1⟩ else if st = 4 then ⟨d.taker, d.into, d.place, 1⟩ else ⟨d.iss, d.div, d.place, 1⟩
theorem znp {a b c : Int} (h1 : 0 ≤ a ∧ a ≤ 1099511627776) (h2 : 0 ≤ b ∧ b ≤ 4) (h3 : 1 ≤ c ∧ c ≤ 8) : isB (bin ⟨a, b, c, 1⟩ 1) = true := by
 simp only [isB, z17, decide_eq_true_eq]
 omega
theorem zhs {d : Dl} {st : Int} (h : zja d st = true) : (d.st = 2 ∧ (st = 3 ∨ st = 4)) ∨ (d.st = 1 ∧ (st = 6 ∨ st = 7)) ∨ (d.st = 1 ∧ st = 5) := by
 unfold zja at h
 simp only [z34, z17, beq_iff_eq] at h
 rcases h with (h | h) | h
 · exact .inl h
 · exact .inr (.inl h)
 · exact .inr (.inr h.1)
theorem toK_isB {d : Dl} {st : Int} (ho : DOk d) (h : zja d st = true) : isB (bin (toK d st) 1) = true := by
 have hm := zhs h
 have h1 := ho.iss; have h2 := ho.div; have h3 := ho.place
 unfold toK
 split
 · rename_i e
   have : d.st = 2 := by omega
   have hk := (ho.taken this).1
   rcases ho.kind with hh | hh
   · exact znp (by omega) h2 (by omega)
   · omega
 · split
   · have : d.st = 2 := by omega
     have ht := ho.taken this
     exact znp (by omega) (by omega) h3
   · exact znp (by omega) h2 h3
structure CloF (now st : Int) (d : Dl) (p : Tb) (pn : Int) (b : Tb) (T : List Tm) (p' b' : Tb) (T' : List Tm) : Prop where
 t0 : 0 ≤ now
 t1 : now ≤ 1099511627776
 ok : dOk d = true
 may : zja d st = true
 pay : PayF d st 0 p p'
 pinv : PInv p' pn
 plen : p'.length = p.length
 tim : TimF T (2 * d.id + 1) T'
 bins : b' = zd9 (toK d st) (zdx (vK d.id d.place) b) (rmv (vK d.id d.place) b)
 binv : BInv b'
 blen : b'.length ≤ b.length
section
variable {C : Ct} {p : Tb} {pn : Int} {b : Tb} {T : List Tm} {Lg : List Mk} {ds : List Dl} {most next : Int}
theorem close_S {now id st : Int} (hp : PInv p pn) (hpl : p.length ≤ 800000) (hb : BInv b) (hbl : b.length ≤ 800000) (hn : ds.length ≤ 1000) (hw : ∀ d ∈ ds, shD d) (hi : ∀ (i : Nat) (d : Dl), ds[i]? = some d → d.id = i + 1)
 (hT : T.Pairwise fun a b => a.2.1 ≠ b.2.1) (hTl : T.length ≤ 1000)
 (k1 : ∀ e, e ≠ 0 → (∀ (i : Nat) (d : Dl), ds[i]? = some d → id = i + 1 → 0 ≤ now → now ≤ 1099511627776 → dOk d = true → zja d st = false) → Q (.i e) (M6 C p pn b (Ob.of (qS T most next)) (Ob.of (zfw Lg)) ds))
 (k2 : ∀ (i : Nat) (d : Dl) (p' b' : Tb) (T' : List Tm), ds[i]? = some d → id = i + 1 → CloF now st d p pn b T p' b' T' → Q (.i 0) (M6 C p' pn b' (Ob.of (qS T' most next)) (Ob.of (zfw (zx2 Lg (now, 2, d.id, st)))) (ds.set i (zt5 d st)))) :
 PRun Tryz.prog 13 (M5 C p pn b (Ob.of (qS T most next)) (Ob.of (zfw Lg)) ds) [.r 0 0, .i now, .i id, .i st] Q := by
 refine S13 (zv8 hw hn (fun hh => ?_) fun i d hg hid => ?_)
 · rw [zej]
   refine cNe (fun _ => k1 3 (by decide) fun i d hg hid => ?_) fun h => absurd h (by decide)
   have := (z2a.1 hg).1
   omega
 rw [zej]
 have hs := hw d (z2y hg)
 have hlt := (z2a.1 hg).1
 have hdi := hi i d hg
 have only : ∀ {A : Prop} (e : Int), e ≠ 0 → (0 ≤ now → now ≤ 1099511627776 → dOk d = true → zja d st = false) → Q (.i e) (M6 C p pn b (Ob.of (qS T most next)) (Ob.of (zfw Lg)) ds) := fun {A} e he h => k1 e he fun j d' hg' hid' => by
  have : j = i := by omega
  subst this
  rw [hg] at hg'
  cases hg'
  exact h
 refine cNe (fun h => absurd rfl h) fun _ => cIf (fun h => only (A := True) 1 (by decide) fun h1 => by omega) fun h1 => cIf (fun h => only (A := True) 1 (by decide) fun _ h2 => by omega) fun h2 => ?_
 refine dEnd_S (by have := hs.1; omega) (by have := hs.2; omega) (fun hbad e he => ?_) fun hok hmay => ?_
 · rw [zh8]
   refine cNe (fun _ => only (A := True) e he fun _ _ hok => ?_) fun h => absurd h he
   rcases hbad with hbad | hbad
   · rw [hok] at hbad; cases hbad
   · exact hbad
 rw [zh8]
 refine cNe (fun h => absurd rfl h) fun _ => ?_
 have ho := zcc hok
 have hx := toK_isB ho hmay
 intro k hk
 have hpl2 := ho.place
 have main : k (toK d st).a (toK d st).b (toK d st).c 1 := by
  refine hk _ _ _ _ ?_
  have hP0 := zok (x := vK d.id d.place) (to := toK d st) hb
  have hres := zoj hx hP0
  rw [show id = d.id by omega]
  refine zr2 hb (by omega) (by omega) hpl2 ?_
  rw [post_LIb]
  have hno : (zdx (vK d.id d.place) b).length ≤ b.length := by unfold zdx; rw [z2d]; exact z44 _ _
  refine ⟨fun x l' a' x4 x5 x6 x7 => SufI (zdx (vK d.id d.place) b) (fun r => ∃ lt, lt.map eT = l' ∧ zgb lt = a' ∧ (toK d st).a = x4 ∧ (toK d st).b = x5 ∧ (toK d st).c = x6 ∧ PutI (toK d st) b.length (zd9 (toK d st) (zdx (vK d.id d.place) b) (rmv (vK d.id d.place) b)) r lt) x, fun x _ _ _ _ _ _ => zmv (zdx (vK d.id d.place) b) x, .zero (by omega) ⟨_, rfl, rfl, rfl, rfl, rfl, hP0⟩, ?_⟩
  rintro x _ _ _ _ _ x7 ⟨r, s, lt, rfl, rfl, rfl, rfl, rfl, hP⟩
  cases r with
  | cons q r =>
    simp only [s.d1, s.el, eS, ug0, ugs, zcs, cond_true]
    exact hP.put hx (by omega) (s.step ⟨_, by first | trivial | rfl, by first | trivial | rfl, by first | trivial | rfl, by first | trivial | rfl, by first | trivial | rfl, hP.step hx⟩)
  | nil =>
    rw [s.d0, cond_false]
    have e : lt = zd9 (toK d st) (zdx (vK d.id d.place) b) (rmv (vK d.id d.place) b) := hP.go
    refine ends_S (d := d) (e := zt5 d st) (b := lt) (st := st) (now := now) (tax := 0) hp hpl hn hs hok ⟨by omega, ho.pay.1⟩ (.inr ⟨rfl, hmay⟩) (by omega) hT hTl fun p' T' hpay hpi hpn htm => ?_
    rw [zz9]
    have ei : (d.id - 1).toNat = i := by omega
    rw [ei]
    exact k2 i d p' lt T' hg hid ⟨by omega, by omega, hok, hmay, hpay, hpi, hpn, htm, e, by rw [e]; exact hres.1, by rw [e]; exact hres.2⟩
 unfold toK at main
 refine cEq (fun h3 => ?_) fun h3 => cEq (fun h4 => ?_) fun h4 => ?_
 · rw [if_pos h3] at main; exact main
 · rw [if_neg h3, if_pos h4] at main; exact main
 · rw [if_neg h3, if_neg h4] at main; exact main
def zdk (d : Dl) : Int := if d.st = 1 then 7 else 4
theorem fire_S {now id : Int} (hp : PInv p pn) (hpl : p.length ≤ 800000) (hb : BInv b) (hbl : b.length ≤ 800000) (hn : ds.length ≤ 1000) (hw : ∀ d ∈ ds, shD d) (hi : ∀ (i : Nat) (d : Dl), ds[i]? = some d → d.id = i + 1)
 (hT : T.Pairwise fun a b => a.2.1 ≠ b.2.1) (hTl : T.length ≤ 1000)
 (k1 : ∀ e, e ≠ 0 → (∀ (i : Nat) (d : Dl), ds[i]? = some d → id = i + 1 → 0 ≤ now → now ≤ 1099511627776 → dOk d = true → d.st ≠ 1 ∧ d.st ≠ 2) → Q (.i e) (M6 C p pn b (Ob.of (qS T most next)) (Ob.of (zfw Lg)) ds))
 (k2 : ∀ (i : Nat) (d : Dl) (p' b' : Tb) (T' : List Tm), ds[i]? = some d → id = i + 1 → (d.st = 1 ∨ d.st = 2) → CloF now (zdk d) d p pn b T p' b' T' → Q (.i 0) (M6 C p' pn b' (Ob.of (qS T' most next)) (Ob.of (zfw (zx2 Lg (now, 2, d.id, zdk d)))) (ds.set i (zt5 d (zdk d))))) :
 PRun Tryz.prog 25 (M5 C p pn b (Ob.of (qS T most next)) (Ob.of (zfw Lg)) ds) [.r 0 0, .i now, .i id] Q := by
 refine S25 (zv8 hw hn (fun hh => ?_) fun i d hg hid => ?_)
 · rw [zej]
   refine cNe (fun _ => k1 3 (by decide) fun i d hg hid => ?_) fun h => absurd h (by decide)
   have := (z2a.1 hg).1
   omega
 rw [zej]
 have hs := hw d (z2y hg)
 have only : ∀ (d' : Dl) (j : Nat), ds[j]? = some d' → id = j + 1 → j = i ∧ d' = d := fun d' j hg' hid' => by
  have : j = i := by omega
  subst this
  rw [hg] at hg'
  cases hg'
  exact ⟨rfl, rfl⟩
 have fin : ∀ st : Int, zja d st = true → zdk d = st → (d.st = 1 ∨ d.st = 2) → PRun Tryz.prog 13 (M5 C p pn b (Ob.of (qS T most next)) (Ob.of (zfw Lg)) ds) [.r 0 0, .i now, .i id, .i st] fun x m => (∃ e : Int, x = .i e ∧ Q (.i e) m) ∧ ∃ (p1 b1 : Tb) (T1 : List Tm) (L1 : List Mk) (d1 : List Dl), m = M6 C p1 pn b1 (Ob.of (qS T1 most next)) (Ob.of (zfw L1)) d1 := fun st hm hst h12 => by
  refine close_S hp hpl hb hbl hn hw hi hT hTl (fun e he h => ⟨⟨e, rfl, k1 e he fun j d' hg' hid' a1 a2 a3 => ?_⟩, _, _, _, _, _, rfl⟩) fun j d' p' b' T' hg' hid' hF => ⟨⟨0, rfl, ?_⟩, _, _, _, _, _, rfl⟩
  · obtain ⟨rfl, rfl⟩ := only d' j hg' hid'
    have := h _ _ hg' hid' a1 a2 a3
    rw [hm] at this
    cases this
  · obtain ⟨rfl, rfl⟩ := only d' j hg' hid'
    rw [← hst] at hF ⊢
    exact k2 _ _ p' b' T' hg' hid' h12 hF
 have next' : ∀ st : Int, zja d st = true → zdk d = st → (d.st = 1 ∨ d.st = 2) → PRun Tryz.prog 13 (M5 C p pn b (Ob.of (qS T most next)) (Ob.of (zfw Lg)) ds) [.r 0 0, .i now, .i id, .i st] (post [.I] patM fun x28 x29 l8 x30 l9 x31 x32 x33 x34 l10 l11 x35 l12 a2 X3 X4 => (Q (.i x28) [.c [.i x29, .l 7 l8, .i x30, .l 4 l9, .i x31, .i x32, .i x33, .i x34, .r 1 0, .r 2 0, .r 3 0, .r 4 0, .w 6], .c [.l 5 l11, .i x35], .c [.l 5 l12, .n .i64 33 a2], .o X3, .o X4, .x, .w 33 19 l10] : Prop)) := fun st hm hst h12 => by
  refine (fin st hm hst h12).mono ?_
  rintro _ _ ⟨⟨e, rfl, hq⟩, p1, b1, T1, L1, d1, rfl⟩
  rw [zgg]
  exact hq
 refine cNe (fun h => absurd rfl h) fun _ => ?_
 refine dLate_S (by have := hs.1; omega) (by have := hs.2; omega) (fun e he h => ?_) (fun hok hst => ?_) fun hok hst => ?_
 · rw [zbk]
   refine cNe (fun _ => k1 e he fun j d' hg' hid' _ _ hok => ?_) fun h => absurd h he
   obtain ⟨rfl, rfl⟩ := only d' j hg' hid'
   exact h hok
 · rw [zbk]
   exact cNe (fun h => absurd rfl h) fun _ => next' 7 (by unfold zja; rw [hst]; rfl) (by unfold zdk; rw [if_pos hst]) (.inl hst)
 · rw [zbk]
   exact cNe (fun h => absurd rfl h) fun _ => next' 4 (by unfold zja; rw [hst]; rfl) (by unfold zdk; rw [if_neg (by omega)]) (.inr hst)
end
end
section
set_option maxRecDepth 1000000
variable {Q : V → Mem → Prop}
def zxd (f t n : Int) (p : Tb) : Tb := if zdi f t n p = 0 then zi6 f t n p else p
def zj9 (f id n : Int) (p : Tb) : Tb := if payE f id n p = 0 then payL f id n p else p
def dPd (d : Dl) : Int := if d.kind = 1 then d.pay else 0
structure IssF (C : Ct) (now : Int) (d : Dl) (n : Nat) (p : Tb) (pn : Int) (b : Tb) (p' b' : Tb) : Prop where
 drw : DrwF C p n d now
 enough : zl4 (d.pay + d.pledge) + dPd d ≤ zag (oK d.iss) p
 pur : p' = zj9 d.iss ((n : Int) + 1) (dPd d) (zxd d.iss 0 (zl4 (d.pay + d.pledge)) p)
 bins : ∃ l1, zct ⟨d.iss, d.div, d.place, 1⟩ d.gives b = some l1 ∧ BInv l1 ∧ b' = zd9 (vK ((n : Int) + 1) d.place) d.gives l1
 lie : ∀ s ∈ d.gives, s.2 ≤ zag (bin ⟨d.iss, d.div, d.place, 1⟩ s.1) b
 pinv : PInv p' pn
 plen : p'.length ≤ p.length + 1
 binv : BInv b'
 blen : b'.length ≤ b.length + 2 * d.gives.length
section
variable {C : Ct} {p : Tb} {pn : Int} {b : Tb} {T : List Tm} {L : Ob} {ds : List Dl} {most next : Int}
theorem issue_S {d : Dl} {now : Int} (hp : PInv p pn) (hpl : p.length ≤ 700000) (hb : BInv b) (hbl : b.length ≤ 700000) (hn : ds.length ≤ 1000) (h1 : d.gives.length ≤ 1000) (h2 : d.wants.length ≤ 1000) (hroom : (T.length : Int) < most) (hnx : next ≠ 1099511627776)
 (k1 : ∀ e, e ≠ 0 → Q (.t [.i 0, .i e]) (M6 C p pn b (Ob.of (qS T most next)) L ds))
 (k2 : ∀ (p' b' : Tb), IssF C now d ds.length p pn b p' b' → Q (.t [.i ((ds.length : Int) + 1), .i 0]) (M6 C p' pn b' (Ob.of (qS ((now + d.lasts, next, 2 * ((ds.length : Int) + 1) + 1) :: T) most (next + 1))) L (ds ++ [zpz d ds.length now]))) :
 PRun Tryz.prog 9 (M5 C p pn b (Ob.of (qS T most next)) L ds) [.r 0 0, .i now, dV d] Q := by
 refine S9 (drawn_S hp (by omega) hn h1 h2 (fun d' e he => ?_) fun F => ?_)
 · rw [zej]
   exact cNe (fun _ => k1 e he) fun h => absurd h he
 rw [zej]
 refine cNe (fun h => absurd rfl h) fun _ => ?_
 have ho := zcc F.ok
 have hpay : 0 ≤ d.pay ∧ d.pay ≤ 1152921504606846976 := ho.pay
 have hple : 0 ≤ d.pledge := by
  rcases ho.kind with hh | hh
  · exact hh.2.2.2.2.2.1
  · have : d.pledge = 0 := hh.2
    omega
 have hiss : 1 ≤ d.iss ∧ d.iss ≤ 1099511627776 := ho.iss
 have hpc : 1 ≤ d.place ∧ d.place ≤ 8 := ho.place
 have hdv : 0 ≤ d.div ∧ d.div ≤ 4 := ho.div
 have hla : 1 ≤ d.lasts ∧ d.lasts ≤ 1048576 := ho.lasts
 have hgv : zhv d.gives 32 = 0 := ho.gives
 have hsum := F.sum
 have hfee := zt1 (n := d.pay + d.pledge) ⟨by omega, hsum⟩
 have ht0 := F.t0
 have ht1 := F.t1
 have hroom2 := F.room
 refine zdj hp.srt (by omega) ?_
 rw [zvc]
 intro kA hkA k3 hk3
 have hv := hp.val d.iss
 have htop := hp.top
 have go : ∀ paid : Int, paid = dPd d → 0 ≤ paid → paid ≤ 1152921504606846976 → k3 (decide (zag (oK d.iss) p < zl4 (d.pay + d.pledge) + paid)) := fun paid hpd hp0 hp1 => by
  refine hk3 _ (cIf (fun _ => k1 6 (by decide)) fun hen => ?_)
  refine lie_S (x := ⟨d.iss, d.div, d.place, 1⟩) (S := d.gives) hb (by omega) h1 ?_
  rw [zz8]
  cases hall : (d.gives.all fun s => decide (s.2 ≤ zag (bin ⟨d.iss, d.div, d.place, 1⟩ s.1) b)) with
  | false => exact k1 7 (by decide)
  | true =>
    have hlie : ∀ s ∈ d.gives, s.2 ≤ zag (bin ⟨d.iss, d.div, d.place, 1⟩ s.1) b := fun s hs => by
     have := z29.1 hall s hs
     simpa using this
    refine hkA _ _ _ _ _ _ _ _ _ _ _ _ _ _ _ ?_
    have mv : ∀ {Q1 : V → Mem → Prop}, (∀ e, Q1 (.i e) [pC (zxd d.iss 0 (zl4 (d.pay + d.pledge)) p) pn]) → PRun Tryz.prog 40 [pC p pn] [.r 0 0, .i d.iss, .i 0, .i (zl4 (d.pay + d.pledge))] Q1 := fun {Q1} h => by
     refine z0t hp (by omega) (fun he => ?_) fun he => ?_
     · have := h (zdi d.iss 0 (zl4 (d.pay + d.pledge)) p)
       unfold zxd at this
       rw [if_neg he] at this
       exact this
     · have := h 0
       unfold zxd at this
       rw [if_pos he] at this
       exact this
    have mi : PInv (zxd d.iss 0 (zl4 (d.pay + d.pledge)) p) pn ∧ (zxd d.iss 0 (zl4 (d.pay + d.pledge)) p).length = p.length := by
     unfold zxd
     split
     · rename_i he
       exact ⟨hp.move he, zki hp.srt he⟩
     · exact ⟨hp, rfl⟩
    refine mv fun e0 => ?_
    rw [ze8]
    intro kB hkB
    have fin : ∀ q : Tb, q = zj9 d.iss ((ds.length : Int) + 1) paid (zxd d.iss 0 (zl4 (d.pay + d.pledge)) p) → PInv q pn → q.length ≤ p.length + 1 → kB (q.map eT) pn := fun q hq hqi hql => by
     refine hkB _ _ (lock_B (fr := ⟨d.iss, d.div, d.place, 1⟩) (L := d.gives) (id := (ds.length : Int) + 1) hb (by omega) (by omega) h1 (znp (by omega) hdv hpc) hgv hlie fun l1 hl1 hbi hbi2 hbl2 => ?_)
     rw [zbx]
     have w2 : z13 .i64 (z13 .i64 (2 * (zpz d ds.length now).id) + 1) = 2 * ((ds.length : Int) + 1) + 1 := by
      show z13 .i64 (z13 .i64 (2 * ((ds.length : Int) + 1)) + 1) = _
      rw [w64 (x := 2 * ((ds.length : Int) + 1)) (by omega) (by omega), w64 (by omega) (by omega)]
     rw [w2]
     refine insert_S (fun hneg => ?_) (fun hful => ?_) fun _ _ _ => ?_
     · have : (zpz d ds.length now).due = now + d.lasts := rfl
       omega
     · rcases hful with h | h
       · omega
       · exact absurd h hnx
     rw [zvd]
     have eds : (ds.map zda) ++ [zda (zpz d ds.length now)] = (ds ++ [zpz d ds.length now]).map zda := by rw [z28]; rfl
     refine ⟨?_, ?_⟩
     · unfold zbo; simp; omega
     · have k3' := k2 q (zd9 (vK ((ds.length : Int) + 1) d.place) d.gives l1) ⟨F, by rw [← hpd]; omega, by rw [← hpd]; exact hq, ⟨l1, hl1, hbi, rfl⟩, hlie, hqi, hql, hbi2, hbl2⟩
       show Q _ [mkC C 6, pC q pn, bK (zd9 (vK ((ds.length : Int) + 1) d.place) d.gives l1), .o _, .o L, .x, .w 33 19 ((ds.map zda) ++ [zda (zpz d ds.length now)])]
       rw [eds]
       exact k3'
    have pay : PRun Tryz.prog 41 [pC (zxd d.iss 0 (zl4 (d.pay + d.pledge)) p) pn] [.r 0 0, .i d.iss, .i ((ds.length : Int) + 1), .i paid] (post [.I] [.c [.l 5, .i .i64]] (fun _ l17 x43 => (kB l17 x43 : Prop))) := by
     refine pay_S mi.1 (by omega) (by omega) (fun he => ?_) fun he hi hl => ?_
     · rw [ze8]
       exact fin _ (by unfold zj9; rw [if_neg he]) mi.1 (by omega)
     · rw [ze8]
       exact fin _ (by unfold zj9; rw [if_pos he]) hi (by omega)
    unfold dPd at hpd
    refine cEq (fun hk => ?_) fun hk => ?_
    · have hk' : d.kind = 1 := hk
      rw [if_pos hk'] at hpd
      subst hpd
      exact pay
    · have hk' : ¬ d.kind = 1 := hk
      rw [if_neg hk'] at hpd
      subst hpd
      exact pay
 refine cEq (fun hk => ?_) fun hk => ?_
 · have hk' : d.kind = 1 := hk
   have e1 : z13 .i64 ((zpz d ds.length now).fee + (zpz d ds.length now).pay) = zl4 (d.pay + d.pledge) + d.pay := w64 (by show _ ≤ zl4 (d.pay + d.pledge) + d.pay; omega) (by show zl4 (d.pay + d.pledge) + d.pay ≤ _; omega)
   rw [e1]
   exact go d.pay (by unfold dPd; rw [if_pos hk']) hpay.1 hpay.2
 · have hk' : ¬ d.kind = 1 := hk
   have e1 : z13 .i64 ((zpz d ds.length now).fee + 0) = zl4 (d.pay + d.pledge) + 0 := w64 (by show _ ≤ zl4 (d.pay + d.pledge) + 0; omega) (by show zl4 (d.pay + d.pledge) + 0 ≤ _; omega)
   rw [e1]
   exact go 0 (by unfold dPd; rw [if_neg hk']) (by omega) (by omega)
end
end
section
set_option maxRecDepth 1000000
variable {Q : V → Mem → Prop}
def MovF (T : List Tm) (w at' next : Int) (T' : List Tm) (next' : Int) : Prop := (∃ (t : Tm) (T1 : List Tm), (t :: T1).Perm T ∧ t.2.2 = w ∧ T' = (at', next, w) :: T1 ∧ next' = next + 1) ∨ ((∀ t ∈ T, t.2.2 ≠ w) ∧ T' = T ∧ next' = next)
structure TakF (now taker into : Int) (d : Dl) (p : Tb) (b : Tb) : Prop where
 ok : dOk d = true
 t0 : 0 ≤ now
 t1 : now ≤ 1099511627776
 k0 : 1 ≤ taker
 k1 : taker ≤ 1099511627776
 ne : taker ≠ d.iss
 i0 : 0 ≤ into
 i1 : into ≤ 4
 st : d.st = 1
 has : zb5 taker p = true
 enough : (if d.kind = 2 then d.pay else d.pledge) ≤ zag (oK taker) p
 lie : ∀ s ∈ d.wants, s.2 ≤ zag (bin ⟨taker, into, d.place, 1⟩ s.1) b
section
variable {C : Ct} {p : Tb} {pn : Int} {b : Tb} {T : List Tm} {Lg : List Mk} {ds : List Dl} {most next : Int}
theorem accept_S {now id taker into : Int} (hp : PInv p pn) (hpl : p.length ≤ 700000) (hb : BInv b) (hbl : b.length ≤ 700000) (hn : ds.length ≤ 1000) (hw : ∀ d ∈ ds, shD d) (hi : ∀ (i : Nat) (d : Dl), ds[i]? = some d → d.id = i + 1)
 (hT : T.Pairwise fun a b => a.2.1 ≠ b.2.1) (hTl : T.length ≤ 1000) (hnx : next ≠ 1099511627776)
 (k1 : ∀ e, e ≠ 0 → Q (.i e) (M6 C p pn b (Ob.of (qS T most next)) (Ob.of (zfw Lg)) ds))
 (k2 : ∀ (i : Nat) (d : Dl) (p' : Tb) (T' : List Tm) (next' : Int), ds[i]? = some d → id = i + 1 → TakF now taker into d p b → d.kind = 1 → p' = zj9 taker d.id d.pledge p → PInv p' pn → p'.length ≤ p.length + 1 → MovF T (2 * d.id + 1) (now + d.days) next T' next' →
  Q (.i 0) (M6 C p' pn b (Ob.of (qS T' most next')) (Ob.of (zfw Lg)) (ds.set i (zco d now taker into))))
 (k3 : ∀ (i : Nat) (d : Dl) (b1 b2 p' : Tb) (T' : List Tm), ds[i]? = some d → id = i + 1 → TakF now taker into d p b → d.kind = 2 → zct ⟨taker, into, d.place, 1⟩ d.wants b = some b1 → BInv b1 → b2 = zd9 ⟨d.iss, d.div, d.place, 1⟩ d.wants b1 → BInv b2 → BInv (zd9 ⟨taker, into, d.place, 1⟩ (zdx (vK d.id d.place) b2) (rmv (vK d.id d.place) b2)) → (zd9 ⟨taker, into, d.place, 1⟩ (zdx (vK d.id d.place) b2) (rmv (vK d.id d.place) b2)).length ≤ b.length + 2 * d.wants.length →
  PayF d 3 (d.pay * 500 / 10000) (zj9 taker d.id d.pay p) p' → PInv (zj9 taker d.id d.pay p) pn → PInv p' pn → p'.length ≤ p.length + 1 → TimF T (2 * d.id + 1) T' →
  Q (.i 0) (M6 C p' pn (zd9 ⟨taker, into, d.place, 1⟩ (zdx (vK d.id d.place) b2) (rmv (vK d.id d.place) b2)) (Ob.of (qS T' most next)) (Ob.of (zfw (zx2 Lg (now, 2, d.id, 3)))) (ds.set i (zco d now taker into)))) :
 PRun Tryz.prog 11 (M5 C p pn b (Ob.of (qS T most next)) (Ob.of (zfw Lg)) ds) [.r 0 0, .i now, .i id, .i taker, .i into] Q := by
 refine S11 (zv8 hw hn (fun hh => ?_) fun i d hg hid => ?_)
 · rw [zej]
   exact cNe (fun _ => k1 3 (by decide)) fun h => absurd h (by decide)
 rw [zej]
 have hs := hw d (z2y hg)
 have hs1 := hs.1; have hs2 := hs.2
 have hlt := (z2a.1 hg).1
 have hdi := hi i d hg
 have hlen : ((ds.map zda).length : Int) = (ds.length : Int) := by rw [z2d]
 refine cNe (fun h => absurd rfl h) fun _ => ?_
 refine dTake_S (by omega) (by omega) (fun e he => ?_) fun hok t0 t1 ta0 ta1 tne in0 in1 hst => ?_
 · rw [zh8]
   exact cNe (fun _ => k1 e he) fun h => absurd h he
 rw [zh8]
 refine cNe (fun h => absurd rfl h) fun _ => ?_
 have ho := zcc hok
 have hpay := ho.pay
 have hpl2 := ho.place
 have hgk := ho.kind
 have hdd : d.kind = 1 → 1 ≤ d.days ∧ d.days ≤ 1048576 ∧ 0 ≤ d.pledge ∧ d.pledge ≤ 1152921504606846976 := fun hk => by
  rcases hgk with hh | hh
  · omega
  · omega
 intro k hk
 have w1 : z13 .i64 (id - 1) = id - 1 := w64 (by omega) (by omega)
 have w2 : z13 .i64 (z13 .i64 (2 * id) + 1) = 2 * d.id + 1 := by rw [w64 (x := 2 * id) (by omega) (by omega), w64 (by omega) (by omega)]; omega
 have ei : (id - 1).toNat = i := by omega
 have main : ∀ needs : Int, needs = (if d.kind = 2 then d.pay else d.pledge) → k needs := fun needs hnd => by
  have hnd0 : 0 ≤ needs ∧ needs ≤ 1152921504606846976 := by
   rw [hnd]
   split
   · exact hpay
   · rename_i h2
     have := hdd (by omega)
     omega
  refine hk needs ?_
  rw [w1, w2, ei]
  refine dup6_of ?_
  refine zdj hp.srt (by omega) ?_
  rw [zvc]
  by_cases hgt : (zaq (oK taker) p).isSome = true
  · rw [if_pos hgt]
    refine cNe (fun h => absurd rfl h) fun _ => cIf (fun _ => k1 6 (by decide)) fun hen => ?_
    refine lie_S (x := ⟨taker, into, d.place, 1⟩) (S := d.wants) hb (by omega) hs2 ?_
    rw [zz8]
    cases hall : (d.wants.all fun s => decide (s.2 ≤ zag (bin ⟨taker, into, d.place, 1⟩ s.1) b)) with
    | false => exact k1 7 (by decide)
    | true =>
      have hlie : ∀ s ∈ d.wants, s.2 ≤ zag (bin ⟨taker, into, d.place, 1⟩ s.1) b := fun s hs => by
       have := z29.1 hall s hs
       simpa using this
      have F : TakF now taker into d p b := ⟨hok, t0, t1, ta0, ta1, tne, in0, in1, hst, hgt, by rw [← hnd]; omega, hlie⟩
      have em : payE taker d.id needs p = 0 := by
       unfold payE
       rw [if_pos (show zb5 taker p = true from hgt), if_neg (by omega), if_neg (by omega)]
      have eid : id = d.id := by omega
      subst eid
      have edd : ∀ D : Dl, zco d now taker into = D → [.n D.id, .n D.kind, .n D.iss, .n D.div, .n D.bye, .n D.to, .n D.place, .n D.dest, .n D.pay, .n D.pledge, .n D.lasts, .n D.days, .n D.fee, .l 2 (D.gives.map eS), .l 2 (D.wants.map eS), .n D.st, .n D.due, .n D.taker, .n D.into] = zda (zco d now taker into) := fun D h => by rw [h]
      have hset : (ds.map zda).set i (zda (zco d now taker into)) = (ds.set i (zco d now taker into)).map zda := by rw [z43]
      refine pay_S hp (by omega) (by omega) (fun he => absurd em he) fun _ hpi hplen => ?_
      rw [ze8]
      have epay : payL taker d.id needs p = zj9 taker d.id needs p := by unfold zj9; rw [if_pos em]
      rw [epay] at hpi hplen ⊢
      refine cEq (fun hkd => ?_) fun hkd => ?_
      · have hd := hdd hkd
        have edue : (zco d now taker into).due = now + d.days := by unfold zco; rw [if_neg (by omega)]
        have en : needs = d.pledge := by rw [hnd, if_neg (by omega)]
        rw [en] at hpi hplen ⊢
        refine ⟨by omega, by omega, ?_⟩
        refine ztf fun ys hys => ?_
        rw [zth]
        have hyl := hys.length_eq
        have e1 : z2q (ds.map zda) i [.n (zco d now taker into).id, .n (zco d now taker into).kind, .n (zco d now taker into).iss, .n (zco d now taker into).div, .n (zco d now taker into).bye, .n (zco d now taker into).to, .n (zco d now taker into).place, .n (zco d now taker into).dest, .n (zco d now taker into).pay, .n (zco d now taker into).pledge, .n (zco d now taker into).lasts, .n (zco d now taker into).days, .n (zco d now taker into).fee, .l 2 ((zco d now taker into).gives.map eS), .l 2 ((zco d now taker into).wants.map eS), .n (zco d now taker into).st, .n (zco d now taker into).due, .n (zco d now taker into).taker, .n (zco d now taker into).into] = (ds.set i (zco d now taker into)).map zda := hset
        rw [e1, edue]
        refine ⟨fun x X => SufI ys (fun r => Ob.of (qS T most next) = X ∧ (∀ t ∈ r, t ∈ T) ∧ ∀ t ∈ T, t.2.2 = 2 * d.id + 1 → t ∈ r) x, fun x _ => zmv ys x, .zero (by omega) ⟨rfl, fun t ht => hys.mem_iff.1 ht, fun t ht _ => hys.mem_iff.2 ht⟩, ?_⟩
        rintro x _ ⟨r, s, rfl, hr1, hr2⟩
        cases r with
        | nil =>
          rw [s.d0, cond_false]
          exact k2 i d _ T next hg hid F hkd rfl hpi hplen (.inr ⟨fun t ht e => by have := hr2 t ht e; simp at this, rfl, rfl⟩)
        | cons q r =>
          simp only [s.d1, s.el, rT, ug0, ugs, zcs, cond_true]
          refine cEq (fun hq => ?_) fun hq => s.step ⟨by first | trivial | rfl, fun t ht => hr1 t (z2j _ ht), fun t ht e => ?_⟩
          · refine moveT_S (fun hno => absurd rfl (hno q (hr1 q z2p))) (fun hneg => by omega) (fun h => absurd h hnx) fun t T1 hpm ht _ _ => ?_
            rw [zvd]
            have hqt : t = q := zo3 hT (hpm.mem_iff.1 z2p) (hr1 q z2p) ht
            have hw2 : t.2.2 = 2 * d.id + 1 := by rw [hqt]; exact hq
            rw [hw2]
            exact k2 i d _ _ _ hg hid F hkd rfl hpi hplen (.inl ⟨t, T1, hpm, hw2, rfl, rfl⟩)
          · rcases z2e.1 (hr2 t ht e) with rfl | h
            · exact absurd e hq
            · exact h
      · have hk2 : d.kind = 2 := by omega
        have en : needs = d.pay := by rw [hnd, if_pos hk2]
        rw [en] at hpi hplen ⊢
        refine sale_S hpay ?_
        rw [zbk]
        have hmine : isB (bin ⟨taker, into, d.place, 1⟩ 1) = true := znp (by omega) (by omega) hpl2
        have htheir : isB (bin ⟨d.iss, d.div, d.place, 1⟩ 1) = true := znp (by have := ho.iss; omega) ho.div hpl2
        obtain ⟨l1, htk, hval, hty⟩ := zey hb.srt (zfk ho.wants) hlie
        have hm := zhu ho.wants
        refine zqf (x := ⟨taker, into, d.place, 1⟩) hb (by omega) hs2 (fun hx => ?_) (fun _ _ hx => ?_) fun b1 _ _ hx hb1 hb1l => ?_
        · rcases hx with hx | hx
          · rw [hmine] at hx; cases hx
          · exact absurd ho.wants hx
        · rw [htk] at hx; cases hx
        rw [htk] at hx
        cases hx
        rw [zbx]
        have hput := zog (x := ⟨d.iss, d.div, d.place, 1⟩) (L := d.wants) hb1 htheir (fun s hs => by have := hm s hs; omega) fun t => by rw [hty]; have := hb.top t; omega
        refine zu8 (x := ⟨d.iss, d.div, d.place, 1⟩) hb1 (by omega) hs2 (fun hx => ?_) (fun _ _ hx => ?_) fun b2 _ _ hx hb2 hb2l => ?_
        · rcases hx with hx | hx
          · rw [htheir] at hx; cases hx
          · exact absurd ho.wants hx
        · rw [hput] at hx; cases hx
        rw [hput] at hx
        cases hx
        rw [zbx]
        refine zz1 (to := ⟨taker, into, d.place, 1⟩) hb2 (by omega) (by omega) hpl2 rfl hmine ?_
        rw [zbx]
        have hP0 := zok (x := vK d.id d.place) (to := ⟨taker, into, d.place, 1⟩) hb2
        have hres := zoj hmine hP0
        have hsold : zfi d 3 = true := by unfold zfi; rw [hk2, hst]; rfl
        refine ends_S (d := d) (e := zco d now taker into) (st := 3) (now := now) (tax := d.pay * 500 / 10000) hpi (by omega) hn hs hok ⟨by omega, by omega⟩ (.inl hsold) (by omega) hT hTl fun p' T' hpf hpi' hpl' htm => ?_
        rw [zz9]
        have ei2 : (d.id - 1).toNat = i := by omega
        rw [ei2]
        exact k3 i d _ _ p' T' hg hid F hk2 htk hb1 rfl hb2 hres.1 (by have := hres.2; omega) hpf hpi hpi' (by omega) htm
  · rw [if_neg hgt]
    exact cNe (fun _ => k1 3 (by decide)) fun h => absurd h (by decide)
 exact cEq (fun hk2 => main _ (by rw [if_pos hk2])) fun hk2 => main _ (by rw [if_neg hk2])
end
end
section
set_option maxRecDepth 100000
def opn (d : Dl) : Bool := d.st == 1 || d.st == 2
abbrev dp (d : Dl) : Int × Int := (d.due, 2 * d.id + 1)
abbrev tp (t : Tm) : Int × Int := (t.1, t.2.2)
def zcg (ds : List Dl) : List (Int × Int) := (ds.filter opn).map dp
theorem zg8 (l m : List Dl) : zcg (l ++ m) = zcg l ++ zcg m := by unfold zcg; rw [List.filter_append, z28]
theorem zfa {d : Dl} (l : List Dl) (h : opn d = true) : zcg (d :: l) = dp d :: zcg l := by unfold zcg; rw [z3m h, z2s]
theorem zqy {d : Dl} (l : List Dl) (h : opn d = false) : zcg (d :: l) = zcg l := by unfold zcg; rw [z3q (by simp [h])]
theorem zy9 {α : Type} {l : List α} {i : Nat} {d : α} (h : l[i]? = some d) : ∃ a b, l = a ++ d :: b ∧ a.length = i ∧ ∀ e, l.set i e = a ++ e :: b := by
 obtain ⟨hlt, he⟩ := z2a.1 h
 refine ⟨l.take i, l.drop (i + 1), ?_, by rw [z33]; omega, fun e => ?_⟩
 · rw [← he]; exact (z4c i l).symm.trans (by rw [← List.getElem_cons_drop hlt])
 · rw [List.set_eq_take_append_cons_drop, if_pos hlt]
theorem zqx {ds : List Dl} {i : Nat} {d : Dl} (h : ds[i]? = some d) (ho : opn d = true) : ∃ rest, (zcg ds).Perm (dp d :: rest) ∧ (∀ e, opn e = true → (zcg (ds.set i e)).Perm (dp e :: rest)) ∧ ∀ e, opn e = false → (zcg (ds.set i e)).Perm rest := by
 obtain ⟨a, b, rfl, -, hs⟩ := zy9 h
 refine ⟨zcg a ++ zcg b, ?_, fun e he => ?_, fun e he => ?_⟩
 · rw [zg8, zfa _ ho]; exact z4z
 · rw [hs, zg8, zfa _ he]; exact z4z
 · rw [hs, zg8, zqy _ he]
structure Wd where
 p : Tb
 b : Tb
 T : List Tm
 next : Int
 Lg : List Mk
 ds : List Dl
structure WC (n : Nat) (s : Wd) : Prop where
 pinv : PInv s.p 562
 plen : s.p.length ≤ 4 + n
 binv : BInv s.b
 blen : s.b.length ≤ 6 + 24 * n
 nx : s.next ≤ 1 + n
 ids : s.T.Pairwise fun a b => a.2.1 ≠ b.2.1
 lt : ∀ t ∈ s.T, t.2.1 < s.next
 dok : ∀ (i : Nat) (d : Dl), s.ds[i]? = some d → dOk d = true ∧ d.id = i + 1
 dlen : s.ds.length ≤ 64
 tim : (s.T.map tp).Perm (zcg s.ds)
 mlen : s.Lg.length + s.T.length = s.ds.length
 mark : ∀ (i : Nat) (d : Dl), s.ds[i]? = some d → if opn d = true then ofM s.Lg 2 (i + 1) = none else ∃ a, ofM s.Lg 2 (i + 1) = some (a, 2, (i : Int) + 1, d.st)
 mid : ∀ m ∈ s.Lg, m.2.2.1 ≤ (s.ds.length : Int)
structure TI (lo : Int) (s : Wd) : Prop where
 last : zfd s.Lg ≤ lo
 due : ∀ t ∈ s.T, lo ≤ t.1
theorem zjm {L : List Stk} {t : Int} (h : zhv L t = 0) : L.length ≤ 8 := by
 unfold zhv at h
 split at h
 · rename_i hh; exact hh.2
 · cases h
theorem dOk_sh {d : Dl} (h : dOk d = true) : d.gives.length ≤ 8 ∧ d.wants.length ≤ 8 := ⟨zjm (zcc h).gives, zjm (zcc h).wants⟩
theorem WC.sh {n : Nat} {s : Wd} (h : WC n s) : ∀ d ∈ s.ds, shD d := fun d hd => by
 obtain ⟨i, hi⟩ := z3t.1 hd
 have := dOk_sh (h.dok i d hi).1
 unfold shD
 omega
theorem z0g (ds : List Dl) : (zcg ds).length ≤ ds.length := by unfold zcg; rw [z2d]; exact z44 _ _
theorem WC.Tlen {n : Nat} {s : Wd} (h : WC n s) : s.T.length ≤ 64 := by
 have := h.tim.length_eq
 rw [z2d] at this
 have := z0g s.ds
 have := h.dlen
 omega
theorem dEnd_ok {d : Dl} {st : Int} (h : dOk d = true) (hm : zja d st = true) : dOk (zt5 d st) = true := by
 have hm' := zhs hm
 have hto : st = 5 → d.to ≠ 0 := fun e => by
  unfold zja at hm
  subst e
  simp only [z34, z17, beq_iff_eq, bne_iff_ne] at hm
  omega
 unfold dOk at *
 simp only [z17] at h ⊢
 refine ⟨h.1, h.2.1, h.2.2.1, h.2.2.2.1, ?_⟩
 have hs := h.2.2.2.2
 unfold zdl at hs ⊢
 show (if st = 1 then _ else if st = 2 then _ else if st = 3 then (0 : Int) == 0 && zfh d else if st = 4 then d.kind == 1 && ((0 : Int) == 0 && zfh d) else if st = 5 then d.to != 0 && ((0 : Int) == 0 && zxt d) else if st = 6 ∨ st = 7 then (0 : Int) == 0 && zxt d else false) = true
 rcases hm' with ⟨h1, h2⟩ | ⟨h1, h2⟩ | ⟨h1, h2⟩
 · rw [if_neg (by omega), if_pos h1] at hs
   simp only [z17] at hs
   rcases h2 with rfl | rfl
   · simpa using hs.2.2
   · simpa using ⟨by simpa using hs.1, hs.2.2⟩
 · rw [if_pos h1] at hs
   simp only [z17] at hs
   rcases h2 with rfl | rfl
   · simpa using hs.2
   · simpa using hs.2
 · rw [if_pos h1] at hs
   simp only [z17] at hs
   subst h2
   simpa using ⟨hto rfl, hs.2⟩
theorem zpb {d : Dl} {st : Int} (hm : zja d st = true) : opn d = true ∧ opn (zt5 d st) = false := by
 have := zhs hm
 unfold opn zt5
 constructor
 · simp; omega
 · simp; omega
theorem dTak_ok {d : Dl} {now taker into : Int} {p b : Tb} (F : TakF now taker into d p b) : dOk (zco d now taker into) = true := by
 have h := F.ok
 have ho := zcc h
 have ht : zfh { d with taker := taker, into := into } = true := by
  unfold zfh
  have h1 := F.k0; have h2 := F.k1; have h3 := F.ne; have h4 := F.i0; have h5 := F.i1
  simp; omega
 unfold zco
 unfold dOk at h
 simp only [z17] at h
 split
 · rename_i hk
   unfold dOk
   simp only [z17]
   refine ⟨h.1, h.2.1, h.2.2.1, h.2.2.2.1, ?_⟩
   unfold zdl
   show ((0 : Int) == 0 && zfh { d with taker := taker, into := into }) = true
   rw [ht]; rfl
 · rename_i hk
   have hk1 : d.kind = 1 := by
    rcases ho.kind with hh | hh
    · exact hh.1
    · exact absurd hh.1 hk
   have hd : 1 ≤ d.days ∧ d.days ≤ 1048576 := by
    rcases ho.kind with hh | hh
    · omega
    · omega
   unfold dOk
   simp only [z17]
   refine ⟨h.1, h.2.1, h.2.2.1, h.2.2.2.1, ?_⟩
   unfold zdl
   show (d.kind == 1 && ((decide (now + d.days ≥ 1) && decide (now + d.days ≤ 2199023255552)) && zfh { d with taker := taker, into := into })) = true
   rw [ht, hk1, decide_eq_true (by have := F.t0; omega), decide_eq_true (by have := F.t1; omega)]
   rfl
end
section
set_option maxRecDepth 100000
theorem ofM_snoc (L : List Mk) (x : Mk) (w i : Int) : ofM (L ++ [x]) w i = match ofM L w i with | some m => some m | none => if x.2.1 = w ∧ x.2.2.1 = i then some x else none := by
 unfold ofM
 rw [List.find?_append]
 cases h : L.find? fun x => x.2.1 == w && x.2.2.1 == i with
 | some m => rfl
 | none =>
   simp only [Option.none_or, List.find?_cons, List.find?_nil]
   by_cases hh : x.2.1 = w ∧ x.2.2.1 = i
   · rw [if_pos hh, hh.1, hh.2]; simp
   · rw [if_neg hh]
     have : (x.2.1 == w && x.2.2.1 == i) = false := by
      rw [z6h]
      intro h2
      simp only [z17, beq_iff_eq] at h2
      exact hh h2
     rw [this]
theorem zif (L : List Mk) (x : Mk) : zfd (L ++ [x]) = x.1 := by unfold zfd; simp
theorem opens_mem {ds : List Dl} {x : Int × Int} : x ∈ zcg ds ↔ ∃ d ∈ ds, opn d = true ∧ dp d = x := by
 unfold zcg
 simp only [z20, z3p]
 constructor
 · rintro ⟨d, ⟨h1, h2⟩, h3⟩; exact ⟨d, h1, h2, h3⟩
 · rintro ⟨d, h1, h2, h3⟩; exact ⟨d, ⟨h1, h2⟩, h3⟩
theorem WC.same {n : Nat} {s : Wd} (h : WC n s) {i : Nat} {d d2 : Dl} (hd : s.ds[i]? = some d) (h2 : d2 ∈ s.ds) (e : d2.id = d.id) : d2 = d := by
 obtain ⟨j, hj⟩ := z3t.1 h2
 have a := (h.dok i d hd).2
 have b := (h.dok j d2 hj).2
 have : i = j := by omega
 subst this
 rw [hd] at hj
 exact (Option.some.inj hj).symm
theorem WC.timer {n : Nat} {s : Wd} (h : WC n s) {i : Nat} {d : Dl} (hd : s.ds[i]? = some d) {t : Tm} (ht : t ∈ s.T) (hw : t.2.2 = 2 * d.id + 1) : tp t = dp d ∧ opn d = true := by
 have hm : tp t ∈ zcg s.ds := h.tim.mem_iff.1 (z20.2 ⟨t, ht, rfl⟩)
 obtain ⟨d2, h1, h2, h3⟩ := opens_mem.1 hm
 have e : d2.id = d.id := by
  have := congrArg Prod.snd h3
  simp only at this
  omega
 have := h.same hd h1 e
 subst this
 exact ⟨h3.symm, h2⟩
theorem WC.has {n : Nat} {s : Wd} (h : WC n s) {i : Nat} {d : Dl} (hd : s.ds[i]? = some d) (ho : opn d = true) : ∃ t ∈ s.T, tp t = dp d := by
 have : dp d ∈ s.T.map tp := h.tim.mem_iff.2 (opens_mem.2 ⟨d, z2y hd, ho, rfl⟩)
 obtain ⟨t, h1, h2⟩ := z20.1 this
 exact ⟨t, h1, h2⟩
theorem WC.timF {n : Nat} {s : Wd} (h : WC n s) {i : Nat} {d : Dl} (hd : s.ds[i]? = some d) (ho : opn d = true) {T' : List Tm} (hT : TimF s.T (2 * d.id + 1) T') : ∃ t, (t :: T').Perm s.T ∧ tp t = dp d := by
 rcases hT with ⟨t, h1, h2⟩ | ⟨h1, h2⟩
 · exact ⟨t, h1, (h.timer hd (h1.mem_iff.1 z2p) h2).1⟩
 · obtain ⟨t, h3, h4⟩ := h.has hd ho
   exact absurd (congrArg Prod.snd h4) (h1 t h3)
theorem zop {T T' : List Tm} {t : Tm} (h : T.Pairwise fun a b => a.2.1 ≠ b.2.1) (hp : (t :: T').Perm T) : T'.Pairwise fun a b => a.2.1 ≠ b.2.1 :=
 (z3l.1 ((hp.pairwise_iff (fun {a b} hab => Ne.symm hab)).2 h)).2
theorem WC.over {n n' : Nat} {s : Wd} (h : WC n s) (hn : n ≤ n') {i : Nat} {d d' : Dl} {a : Int} {T' : List Tm} {p' b' : Tb} (hd : s.ds[i]? = some d) (ho : opn d = true) (hok : dOk d' = true) (hid : d'.id = d.id) (ho' : opn d' = false) (hst : 3 ≤ d'.st ∧ d'.st ≤ 7)
 (ha : 0 ≤ a ∧ a ≤ 1099511627776) (hl : zfd s.Lg ≤ a) (hT : ∃ t, (t :: T').Perm s.T ∧ tp t = dp d) (hp : PInv p' 562) (hpl : p'.length ≤ 4 + n') (hb : BInv b') (hbl : b'.length ≤ 6 + 24 * n') :
 zx2 s.Lg (a, 2, d.id, d'.st) = s.Lg ++ [(a, 2, d.id, d'.st)] ∧ WC n' ⟨p', b', T', s.next, s.Lg ++ [(a, 2, d.id, d'.st)], s.ds.set i d'⟩ := by
 obtain ⟨t, hpm, htp⟩ := hT
 have hlt := (z2a.1 hd).1
 have hdi := (h.dok i d hd).2
 have hm := h.mark i d hd
 rw [if_pos ho] at hm
 have hl2 := hpm.length_eq
 simp only [z2o] at hl2
 have hdl := h.dlen
 have hml := h.mlen
 have ea : zx2 s.Lg (a, 2, d.id, d'.st) = s.Lg ++ [(a, 2, d.id, d'.st)] := by
  unfold zx2
  rw [if_pos]
  unfold zhz
  rw [if_pos ⟨⟨by simpa using ha.1, by simpa using ha.2, by simp only; omega, by simp only; omega, .inr ⟨rfl, by simpa using hst⟩⟩, by simpa using hl⟩]
  rw [show ofM s.Lg ((a, 2, d.id, d'.st) : Mk).2.1 ((a, 2, d.id, d'.st) : Mk).2.2.1 = none by rw [show ((a, 2, d.id, d'.st) : Mk).2.2.1 = (i : Int) + 1 from hdi]; exact hm]
  rw [if_neg (by simp), if_neg (by omega)]
 refine ⟨ea, ?_⟩
 obtain ⟨rest, r1, -, r3⟩ := zqx hd ho
 exact {
  pinv := hp
  plen := hpl
  binv := hb
  blen := hbl
  nx := by have := h.nx; simp only; omega
  ids := zop h.ids hpm
  lt := fun x hx => h.lt x (hpm.mem_iff.1 (z2j _ hx))
  dok := fun j e he => by
   simp only at he
   rw [z31] at he
   split at he
   · rename_i hij
     subst hij
     cases he
     exact ⟨hok, by rw [hid]; exact hdi⟩
   · exact h.dok j e he
  dlen := by simp only [z3d]; exact hdl
  tim := by
   have e1 : ((t :: T').map tp).Perm (s.T.map tp) := hpm.map tp
   rw [z2s, htp] at e1
   exact ((e1.trans (h.tim.trans r1)).cons_inv).trans (r3 d' ho').symm
  mlen := by simp only [z2z, z2o, z36, z3d]; omega
  mark := fun j e he => by
   simp only at he ⊢
   rw [z31] at he
   rw [ofM_snoc]
   split at he
   · rename_i hij
     subst hij
     cases he
     rw [if_neg (by simp [ho']), hm]
     simp only
     rw [if_pos ⟨trivial, hdi⟩]
     exact ⟨a, by rw [hdi]⟩
   · rename_i hij
     have hmj := h.mark j e he
     split at hmj
     · rename_i hoe
       rw [if_pos hoe, hmj]
       simp only
       rw [if_neg]
       rintro ⟨-, hh⟩
       omega
     · rename_i hoe
       obtain ⟨b, hb⟩ := hmj
       rw [if_neg hoe, hb]
       exact ⟨b, rfl⟩
  mid := fun m hm2 => by
   simp only [z3d] at hm2 ⊢
   rcases z2f.1 hm2 with hm2 | hm2
   · exact h.mid m hm2
   · simp only [z3v] at hm2
     subst hm2
     simp only
     omega }
theorem WC.move {n : Nat} {s : Wd} (h : WC n s) {i : Nat} {d d' : Dl} {T' : List Tm} {next' : Int} {p' : Tb} (hd : s.ds[i]? = some d) (ho : opn d = true) (hok : dOk d' = true) (hid : d'.id = d.id) (ho' : opn d' = true) (hT : MovF s.T (2 * d.id + 1) d'.due s.next T' next')
 (hp : PInv p' 562) (hpl : p'.length ≤ 4 + (n + 1)) : WC (n + 1) ⟨p', s.b, T', next', s.Lg, s.ds.set i d'⟩ ∧ ∃ t T1, (t :: T1).Perm s.T ∧ T' = (d'.due, s.next, 2 * d.id + 1) :: T1 := by
 have hlt := (z2a.1 hd).1
 have hdi := (h.dok i d hd).2
 rcases hT with ⟨t, T1, hpm, hw, rfl, rfl⟩ | ⟨h1, -⟩
 · obtain ⟨rest, r1, r2, -⟩ := zqx hd ho
   have htp := (h.timer hd (hpm.mem_iff.1 z2p) hw).1
   have hl2 := hpm.length_eq
   simp only [z2o] at hl2
   refine ⟨?_, t, T1, hpm, rfl⟩
   exact {
    pinv := hp
    plen := hpl
    binv := h.binv
    blen := by have := h.blen; simp only; omega
    nx := by have := h.nx; simp only; omega
    ids := z3l.2 ⟨fun x hx => by have := h.lt x (hpm.mem_iff.1 (z2j _ hx)); simp only; omega, zop h.ids hpm⟩
    lt := fun x hx => by
     rcases z2e.1 hx with rfl | hx
     · simp only; omega
     · have := h.lt x (hpm.mem_iff.1 (z2j _ hx)); simp only; omega
    dok := fun j e he => by
     simp only at he
     rw [z31] at he
     split at he
     · rename_i hij
       subst hij
       cases he
       exact ⟨hok, by rw [hid]; exact hdi⟩
     · exact h.dok j e he
    dlen := by simp only [z3d]; exact h.dlen
    tim := by
     have e1 : ((t :: T1).map tp).Perm (s.T.map tp) := hpm.map tp
     rw [z2s, htp] at e1
     have e2 := (e1.trans (h.tim.trans r1)).cons_inv
     simp only [z2s]
     have e3 : tp (d'.due, s.next, 2 * d.id + 1) = dp d' := by unfold tp dp; rw [hid]
     rw [e3]
     exact (e2.cons _).trans (r2 d' ho').symm
    mlen := by simp only [z2o, z3d]; have := h.mlen; omega
    mark := fun j e he => by
     simp only at he ⊢
     rw [z31] at he
     split at he
     · rename_i hij
       subst hij
       cases he
       have hm := h.mark i d hd
       rw [if_pos ho] at hm
       rw [if_pos ho']
       exact hm
     · exact h.mark j e he
    mid := fun m hm2 => by simp only [z3d]; exact h.mid m hm2 }
 · obtain ⟨t, h3, h4⟩ := h.has hd ho
   exact absurd (congrArg Prod.snd h4) (h1 t h3)
theorem WC.add {n : Nat} {s : Wd} (h : WC n s) {d' : Dl} {p' b' : Tb} (hok : dOk d' = true) (hid : d'.id = (s.ds.length : Int) + 1) (ho : opn d' = true) (hr : s.ds.length < 64) (hp : PInv p' 562) (hpl : p'.length ≤ 4 + (n + 1)) (hb : BInv b') (hbl : b'.length ≤ 6 + 24 * (n + 1)) :
 WC (n + 1) ⟨p', b', (d'.due, s.next, 2 * ((s.ds.length : Int) + 1) + 1) :: s.T, s.next + 1, s.Lg, s.ds ++ [d']⟩ where
 pinv := hp
 plen := hpl
 binv := hb
 blen := hbl
 nx := by have := h.nx; simp only; omega
 ids := z3l.2 ⟨fun x hx => by have := h.lt x hx; simp only; omega, h.ids⟩
 lt := fun x hx => by
  rcases z2e.1 hx with rfl | hx
  · simp only; omega
  · have := h.lt x hx; simp only; omega
 dok := fun j e he => by
  simp only at he
  rw [z5x] at he
  split at he
  · exact h.dok j e he
  · rename_i hj
    have : j = s.ds.length := by
     have := (z2a.1 he).1
     simp at this
     omega
    subst this
    simp at he
    subst he
    exact ⟨hok, hid⟩
 dlen := by simp only [z2z, z2o, z36]; omega
 tim := by
  simp only [z2s]
  have e3 : tp (d'.due, s.next, 2 * ((s.ds.length : Int) + 1) + 1) = dp d' := by unfold tp dp; rw [hid]
  rw [e3, zg8, zfa _ ho]
  exact (h.tim.cons _).trans (z5a (l₁ := [dp d']) (l₂ := zcg s.ds))
 mlen := by simp only [z2o, z2z, z36]; have := h.mlen; omega
 mark := fun j e he => by
  simp only at he ⊢
  rw [z5x] at he
  split at he
  · exact h.mark j e he
  · have : j = s.ds.length := by
     have := (z2a.1 he).1
     simp at this
     omega
    subst this
    simp at he
    subst he
    rw [if_pos ho]
    unfold ofM
    refine z5n.2 fun m hm hh => ?_
    have := h.mid m hm
    simp only [z17, beq_iff_eq] at hh
    omega
 mid := fun m hm => by
  have := h.mid m hm
  simp only [z2z, z2o, z36]
  omega
end
section
set_option maxRecDepth 1000000
variable {Q : V → Mem → Prop}
abbrev W5 (C : Ct) (s : Wd) : Mem := M5 C s.p 562 s.b (Ob.of (qS s.T 256 s.next)) (Ob.of (zfw s.Lg)) s.ds
abbrev W6 (C : Ct) (s : Wd) : Mem := M6 C s.p 562 s.b (Ob.of (qS s.T 256 s.next)) (Ob.of (zfw s.Lg)) s.ds
inductive Stp (kind iss taker : Int) (s : Wd) : Wd → Prop
 | iss {C : Ct} {now next' : Int} {d : Dl} {p' b' : Tb} {T' : List Tm} : kind = 1 → d.iss = iss → IssF C now d s.ds.length s.p 562 s.b p' b' → Stp kind iss taker s ⟨p', b', T', next', s.Lg, s.ds ++ [zpz d s.ds.length now]⟩
 | tak1 {now into next' : Int} {i : Nat} {d : Dl} {T' : List Tm} : kind = 2 → s.ds[i]? = some d → TakF now taker into d s.p s.b → d.kind = 1 → Stp kind iss taker s ⟨zj9 taker d.id d.pledge s.p, s.b, T', next', s.Lg, s.ds.set i (zco d now taker into)⟩
 | tak2 {now into : Int} {i : Nat} {d : Dl} {T' : List Tm} {b1 p' : Tb} {Lg' : List Mk} : kind = 2 → s.ds[i]? = some d → TakF now taker into d s.p s.b → d.kind = 2 → zct ⟨taker, into, d.place, 1⟩ d.wants s.b = some b1 → BInv b1 → BInv (zd9 ⟨d.iss, d.div, d.place, 1⟩ d.wants b1) → PayF d 3 (d.pay * 500 / 10000) (zj9 taker d.id d.pay s.p) p' →
  PInv (zj9 taker d.id d.pay s.p) 562 → Stp kind iss taker s ⟨p', zd9 ⟨taker, into, d.place, 1⟩ (zdx (vK d.id d.place) (zd9 ⟨d.iss, d.div, d.place, 1⟩ d.wants b1)) (rmv (vK d.id d.place) (zd9 ⟨d.iss, d.div, d.place, 1⟩ d.wants b1)), T', s.next, Lg', s.ds.set i (zco d now taker into)⟩
 | clo {st : Int} {i : Nat} {d : Dl} {T' : List Tm} {p' : Tb} {Lg' : List Mk} : kind = 3 → s.ds[i]? = some d → dOk d = true → zja d st = true → PayF d st 0 s.p p' → Stp kind iss taker s ⟨p', zd9 (toK d st) (zdx (vK d.id d.place) s.b) (rmv (vK d.id d.place) s.b), T', s.next, Lg', s.ds.set i (zt5 d st)⟩
structure Fir (s : Wd) (i : Nat) (d : Dl) (s' : Wd) : Prop where
 hd : s.ds[i]? = some d
 ok : dOk d = true
 opn : opn d = true
 may : zja d (zdk d) = true
 pay : PayF d (zdk d) 0 s.p s'.p
 bins : s'.b = zd9 (toK d (zdk d)) (zdx (vK d.id d.place) s.b) (rmv (vK d.id d.place) s.b)
 log : s'.Lg = s.Lg ++ [(d.due, 2, d.id, zdk d)]
 ds : s'.ds = s.ds.set i (zt5 d (zdk d))
theorem WC.up {n n' : Nat} {s : Wd} (h : WC n s) (hn : n ≤ n') : WC n' s := { h with plen := by have := h.plen; omega, blen := by have := h.blen; omega, nx := by have := h.nx; omega }
theorem WC.whats {n : Nat} {s : Wd} (h : WC n s) : s.T.Pairwise fun a b => a.2.2 ≠ b.2.2 := by
 have h1 : s.ds.Pairwise fun a b => a.id ≠ b.id := by
  rw [z5q]
  intro i j hi hj hij
  have a := (h.dok i _ (z2c hi)).2
  have b := (h.dok j _ (z2c hj)).2
  omega
 have h2 : (zcg s.ds).Pairwise fun a b => a.2 ≠ b.2 := by
  unfold zcg
  rw [z6g]
  exact (h1.filter _).imp fun {a b} hab => by simp only; omega
 have h3 : (s.T.map tp).Pairwise fun a b => a.2 ≠ b.2 := (h.tim.pairwise_iff (fun {a b} hab => Ne.symm hab)).2 h2
 rw [z6g] at h3
 exact h3
theorem z1f {d : Dl} (h : opn d = true) : zja d (zdk d) = true ∧ 3 ≤ zdk d ∧ zdk d ≤ 7 := by
 unfold opn at h
 simp only [z34, beq_iff_eq] at h
 unfold zdk zja
 rcases h with h | h
 · rw [if_pos h, h]; simp
 · rw [if_neg (by omega), h]; simp
theorem later_S {n : Int} (k : ∀ x, 0 ≤ x → x ≤ 255 → Q (.i x) []) : PRun Tryz.prog 60 [] [.i n] Q := by
 refine S60 ?_
 have hb : (BitVec.ofInt 64 n &&& BitVec.ofInt 64 255).toNat ≤ 255 := by
  rw [BitVec.toNat_and, show (BitVec.ofInt 64 255).toNat = 255 from rfl]
  exact Nat.and_le_right
 refine k _ ?_ ?_
 · rw [w64 (by omega) (by omega)]; omega
 · rw [w64 (by omega) (by omega)]; omega
end
section
set_option maxRecDepth 100000
theorem z0m {i j : Int} (h : oK i = oK j) : i = j := congrArg K4.a h
theorem zn0 {k : K4} {v : Int} {l : Tb} (hs : Srt l) (j : K4) : zag j (zeo k v l) = if j = k then v else zag j l := by
 unfold zag
 rw [zfs _ hs]
 split <;> rfl
theorem zhc {f t n : Int} {l : Tb} (hs : Srt l) (j : Int) : zag (oK j) (zi6 f t n l) = zag (oK j) l + (if j = t then n else 0) - (if j = f then n else 0) := by
 unfold zi6
 rw [zn0 (zeb hs), zn0 hs, zn0 hs]
 by_cases h1 : j = t
 · subst h1
   rw [if_pos rfl, if_pos rfl]
   by_cases h2 : j = f
   · subst h2; rw [if_pos rfl, if_pos rfl]; omega
   · rw [if_neg (fun h => h2 (z0m h)), if_neg h2]; omega
 · rw [if_neg (fun h => h1 (z0m h)), if_neg h1]
   by_cases h2 : j = f
   · subst h2; rw [if_pos rfl, if_pos rfl]; omega
   · rw [if_neg (fun h => h2 (z0m h)), if_neg h2]; omega
theorem zus {k : K4} {v : Int} {l : Tb} (hs : Srt l) (j : K4) (h : (zaq j l).isSome = true) : (zaq j (zeo k v l)).isSome = true := by
 rw [zfs _ hs]
 split
 · rfl
 · exact h
theorem zhd {f t n : Int} {l : Tb} (hs : Srt l) {j : Int} (h : zb5 j l = true) : zb5 j (zi6 f t n l) = true := by
 unfold zi6 zb5
 exact zus (zeb hs) _ (zus hs _ h)
theorem has_pos {j : Int} {l : Tb} (h : 0 < zag (oK j) l) : zb5 j l = true := by
 unfold zag at h
 unfold zb5
 cases hg : zaq (oK j) l with
 | none => rw [hg] at h; simp at h
 | some v => rfl
theorem zj8 {o : Int} : ∀ {ps : List Pm} {p : Tb} {n : Int}, PInv p n → (∀ x ∈ ps, zb5 x.2.1 p = true ∧ x.2.1 ≠ o) → ze9 ps (zag (oK o) p) →
 zag (oK o) (zgh o ps p) = 0 ∧ (∀ j, j ≠ o → (∀ x ∈ ps, x.2.1 ≠ j) → zag (oK j) (zgh o ps p) = zag (oK j) p) ∧ ∀ j, zb5 j p = true → zb5 j (zgh o ps p) = true
 | [], p, n, hp, _, h => ⟨h, fun _ _ _ => rfl, fun _ h => h⟩
 | x :: r, p, n, hp, ha, h => by
   obtain ⟨h1, h2, h3, h4⟩ := h
   have hx := ha x z2p
   simp only [zgh]
   by_cases hn : 0 < x.2.2
   · rw [if_pos hn]
     have hm : zdi o x.2.1 x.2.2 p = 0 := by
      unfold zdi zkl
      rw [has_pos (j := o) (by omega), hx.1]
      simp
      omega
     rw [if_pos hm]
     have v1 : zag (oK o) (zi6 o x.2.1 x.2.2 p) = zag (oK o) p - x.2.2 := by
      rw [zhc hp.srt, if_neg (fun e => hx.2 e.symm), if_pos rfl]; omega
     obtain ⟨g1, g2, g3⟩ := zj8 (o := o) (ps := r) (hp.move hm) (fun y hy => ⟨zhd hp.srt (ha y (z2j _ hy)).1, (ha y (z2j _ hy)).2⟩) (by rw [v1]; exact h4)
     refine ⟨g1, fun j hj hne => ?_, fun j hj => g3 j (zhd hp.srt hj)⟩
     rw [g2 j hj fun y hy => hne y (z2j _ hy), zhc hp.srt, if_neg (fun e => hne x z2p e.symm), if_neg hj]; omega
   · rw [if_neg hn]
     have e0 : x.2.2 = 0 := by omega
     obtain ⟨g1, g2, g3⟩ := zj8 (o := o) (ps := r) hp (fun y hy => ha y (z2j _ hy)) (by rw [e0, Int.sub_zero] at h4; exact h4)
     exact ⟨g1, fun j hj hne => g2 j hj fun y hy => hne y (z2j _ hy), g3⟩
theorem zjh {x : K4} : ∀ {L : List Stk} {l : Tb}, Srt l → ∀ k, zag k (zd9 x L l) = if zhj x k = true then zag k l + zee k.d L else zag k l
 | [], l, _, k => by simp only [zd9, zee]; split <;> omega
 | q :: r, l, hs, k => by
   simp only [zd9, zee]
   rw [zjh (zjn hs), zph _ hs]
   by_cases hk : zhj x k = true
   · rw [if_pos hk, if_pos hk]
     by_cases e : q.1 = k.d
     · rw [if_pos e, if_pos (by rw [inDv_iff.1 hk, e]), inDv_iff.1 hk, e]; simp only [bin]; omega
     · rw [if_neg e, if_neg (fun e2 => e (by rw [e2]))]; omega
   · rw [if_neg hk, if_neg hk, if_neg (fun e => hk (by rw [e]; exact inDv_iff.2 rfl))]
theorem zoi {x : K4} (d : Int) : ∀ {L : List Stk} {l : Tb}, Srt l → tyQ d (zd9 x L l) = tyQ d l + zee d L
 | [], l, _ => by simp [zd9, zee]
 | q :: r, l, hs => by
   simp only [zd9, zee]
   rw [zoi d (zjn hs)]
   unfold tyQ
   rw [zev hs]
   by_cases e : q.1 = d
   · rw [if_pos e, if_pos (by simpa [bin] using e)]; omega
   · rw [if_neg e, if_neg (by simpa [bin] using e)]; omega
theorem rmv_val {x k : K4} {l : Tb} (hs : Srt l) : zag k (rmv x l) = if zhj x k = true then 0 else zag k l := by
 unfold zag
 rw [zzn hs]
 split <;> rfl
end
section
set_option maxRecDepth 1000000
def p0 : Tb := [(oK 0, 0), (oK 1, 60), (oK 2, 500), (oK 3, 2)]
def b0 : Tb := [(⟨1, 0, 1, 1⟩, 60), (⟨1, 0, 1, 2⟩, 40), (⟨1, 0, 1, 3⟩, 20), (⟨2, 0, 1, 1⟩, 60), (⟨2, 0, 1, 2⟩, 40), (⟨2, 0, 1, 3⟩, 20)]
def purA : List V := [.l 2 [[.n 0, .n 0], [.n 1, .n 60], [.n 2, .n 500], [.n 3, .n 2]]]
def binA : List V := [.l 5 [[.n 1, .n 0, .n 1, .n 1, .n 60], [.n 1, .n 0, .n 1, .n 2, .n 40], [.n 1, .n 0, .n 1, .n 3, .n 20], [.n 2, .n 0, .n 1, .n 1, .n 60], [.n 2, .n 0, .n 1, .n 2, .n 40], [.n 2, .n 0, .n 1, .n 3, .n 20]]]
theorem pur0_S : PRun Tryz.prog 33 [] purA fun x m => x = .t [.r 0 0, .i 0] ∧ m = [.c [.w 1, .i 562], .w 191 5 (p0.map eT)] :=
 zgn zf4 (zal whp) (inl := z2b 600) (nl := 300) (n := 60) Tryz.func33 (by kernel_rfl) (r := (.t [.r 0 0, .i 0], [.c [.w 1, .i 562], .w 191 5 (p0.map eT)])) (by kernel_rfl)
theorem que0_S : PRun Tryz.prog 22 [] [.i 256] fun x m => x = .t [.r 0 0, .i 0] ∧ m = [.c [.nl 3, .m 1, .i 256, .i 1], .p .n 1 false []] :=
 zgn zf4 (zal whp) (inl := z2b 600) (nl := 300) (n := 60) Tryz.func22 (by kernel_rfl) (r := (.t [.r 0 0, .i 0], [.c [.nl 3, .m 1, .i 256, .i 1], .p .n 1 false []])) (by kernel_rfl)
theorem bin0_S : PRun Tryz.prog 34 [] binA fun x m => x = .t [.r 0 0, .i 0] ∧ m = [.c [.w 1, .n .i64 33 (zgb b0)], .w 191 5 (b0.map eT)] :=
 zgn zf4 (zal whp) (inl := z2b 600) (nl := 300) (n := 60) Tryz.func34 (by kernel_rfl) (r := (.t [.r 0 0, .i 0], [.c [.w 1, .n .i64 33 (zgb b0)], .w 191 5 (b0.map eT)])) (by kernel_rfl)
end
end Go.Proofs.YtalglagdgabafaaGreat
