/- The row of MarketKeeps: whatever it is given it returns true, and what it was given reads as it did. -/
import Derived.Test.YtalglagdgabafaaGreatHk6
import Derived.Test.YtalglagdgabafaaGreatProg
set_option linter.unusedVariables false
namespace Go.Proofs.YtalglagdgabafaaGreat
open _root_.Bool renaming and_eq_true → z17, eq_false_iff → z6h, false_eq_true → z3n, not_eq_true' → z2u, not_false → z47, not_true → z3s, or_eq_false_iff → z49, or_eq_true → z34
open _root_.Int renaming le_refl → z2v, tdiv_eq_ediv_of_nonneg → z6c, toNat_natCast → z27, zero_add → z5j
open _root_.Go.IntKind renaming wrap → z13
open _root_.List renaming append_nil → z3a, cons_append → z3r, eq_nil_of_length_eq_zero → z3w, filter_cons_of_neg → z3q, filter_cons_of_pos → z3m, filter_eq_nil_iff → z5i, getElem?_append → z5x, getElem?_eq_getElem → z2c, getElem?_eq_some_iff → z2a, getElem?_map → z2i, getElem?_set → z31, getElem_mem → z4y, length → z15, length_append → z2z, length_cons → z2o, length_filter_le → z44, length_map → z2d, length_nil → z36, length_set → z3d, map → z26, map_append → z28, mem_cons → z2e, mem_cons_of_mem → z2j, mem_cons_self → z2p, mem_flatMap → z5u, mem_iff_getElem? → z3t, mem_map → z20, mem_of_getElem? → z2y, mem_singleton → z3v, nil_append → z3f, pairwise_cons → z3l, pairwise_map → z6g, range → z2b, take_length → z4r
open _root_.Nat renaming beq → z14, ble → z19, eq_of_beq_eq_true → z18, le_of_ble_eq_true → z2w, le_refl → z2r, zero_le → z3j
section
set_option maxRecDepth 1000000
section
variable {P : Program} {D D' : Fz} {ρ ρ' : List Loc} {m m' : Mem} {chs C : List zab} {h h' : zac} {ro hr : List Nat}
def spClo (G : Nat) (Ts : List TypeId) (A : List V) (R : V) (T : Mem) (hA : zam A = []) (hren : zd8 (fun b => zh9 [] b 0) A = A) (hrun : PRun P G [] A fun x m => x = R ∧ m = T) : SP P where
 f ro _ g args m K := cond (z14 g G) (match frzL ro m (zmc P Ts args) with
   | some (as', m1) => some (as' = A ∧ K (zcf (fK [] m1.length) R) (zuc m1 [] T))
   | none => some False) none
 ok := by
  intro ro hr X call hX hcall g args m KS p hs hp D ρ chs C h vs xx M ha
  cases hg : z14 g G with
  | false => rw [hg] at hs; cases hs
  | true =>
    rw [hg] at hs
    have := z18 hg
    subst this
    simp only [cond_true] at hs
    split at hs
    · rename_i as' m1 hf
      cases hs
      obtain ⟨rfl, hK⟩ := hp
      have ha := zto (P := P) (Ts := Ts) ha
      obtain ⟨D1, c1, n1, M1, ra⟩ := zvx hf M ha
      refine (zig (P := P) (ro := ro) (hr := hr) (X := X) (KS := KS) ⟨[], R, T, by simp, fun b hb => by simp at hb, fun b hb => by simp at hb, fun b hb => by rw [hA] at hb; simp at hb, by rw [hren]; exact hrun, hK⟩ M1 ra).mono ?_
      rintro v h' ⟨D2, ρ2, m2, c2, x, n2, M2, hv, hq⟩
      exact ⟨D2, ρ2, m2, c2, x, n1.trans n2, M2, hv, hq⟩
    · cases hs; exact hp.elim
theorem PRun.packN {P : Program} {g : FuncId} {args : List V} {T T2 : Mem} {S : Mem → Prop} (hh : PRun P g [] args fun x m' => x = .t [.r 0 0, .i 0] ∧ m' = T) (hN : Nrm T T2) (hS : S T2) : PRun P g [] args fun x m' => x = .t [.r 0 0, .i 0] ∧ m' = [.o (Ob.of S)] := by
 intro D ρ chs C hp vs M F
 have hρ : ρ = [] := z3w M.len
 subst hρ
 refine (hh D [] chs C hp vs M F).mono ?_
 rintro v h2 ⟨D2, s, cs, x, m', le, M2, hv, rfl, rfl⟩
 cases hv with
 | t hv =>
   cases hv with
   | cons h1 h3 =>
     obtain ⟨L, hL, rfl⟩ := h1.r_inv
     obtain ⟨ρ2, cs2, l1, l2, l3, pm, ent⟩ := hN D2 s cs (by simpa using M2.len) M2.lch (by simpa using M2.ent)
     refine ⟨D2, [L], [cs2.flatten], _, _, le, ⟨rfl, rfl, ?_, M2.st.perm (by simpa using pm.append_right _)⟩, .t (.cons (.r rfl) (zu1 h3 rfl)), rfl, rfl⟩
     rintro i K ab c q1 q2 q3
     cases i with
     | zero =>
       simp at q1 q2 q3
       subst q1 q2 q3
       exact .o ⟨T2, ρ2, cs2, hS, l1, l2, ⟨L, l3 L (by simpa using hL), rfl⟩, rfl, ent⟩
     | succ i => simp at q2
end
theorem que_nrm : Nrm [.c [.nl 3, .m 1, .i 256, .i 1], .p .n 1 false []] (qM [] [] 256 1) := by
 intro D ρ chs h1 h2 he
 match ρ, chs, h1, h2 with
 | [L0, L1], [c0, c1], _, _ =>
   have e0 := he 0 L0 _ c0 rfl rfl rfl
   have e1 := he 1 L1 _ c1 rfl rfl rfl
   refine ⟨[L0, ⟨0, none, 0, 0, none⟩, L1], [c0, [], c1], rfl, rfl, fun L h => h, by simp, fun i L ab c q1 q2 q3 => ?_⟩
   match i, q1, q2, q3 with
   | 0, q1, q2, q3 =>
     cases q1; cases q2; cases q3
     cases e0 with
     | c hc =>
       cases hc with
       | cons a1 _ hc =>
         cases hc with
         | cons a2 _ hc =>
           cases a1
           cases a2 with
           | m hm =>
             cases hm
             refine .c (.cons (.w (b := 1) (L := ⟨0, none, 0, 0, none⟩) rfl) (fun _ _ _ h => nomatch h) (.cons (.m (b := 2) rfl) (fun _ _ _ h => nomatch h) ?_))
             cases hc with
             | cons a3 _ hc =>
               cases hc with
               | cons a4 _ hc =>
                 cases hc
                 cases a3; cases a4
                 rename_i x3 x4
                 exact .cons (.u x3) (fun _ _ _ h => nomatch h) (.cons (.u x4) (fun _ _ _ h => nomatch h) .nil)
   | 1, q1, q2, q3 =>
     cases q1; cases q2; cases q3
     exact .w .nil rfl
   | 2, q1, q2, q3 =>
     cases q1; cases q2; cases q3
     cases e1 with
     | p a b c => exact .p a b c
   | i + 3, q1, q2, q3 => simp at q2
theorem pur1_S : PRun Tryz.prog 33 [] purA fun x m => x = .t [.r 0 0, .i 0] ∧ m = [pC p0 562] :=
 PRun.trim (PRun.frz 0 0 (pur0_S.mono (by rintro _ _ ⟨rfl, rfl⟩; exact ⟨rfl, rfl⟩)))
theorem bin1_S : PRun Tryz.prog 34 [] binA fun x m => x = .t [.r 0 0, .i 0] ∧ m = [bK b0] :=
 PRun.trim (PRun.frz 0 0 (bin0_S.mono (by rintro _ _ ⟨rfl, rfl⟩; exact ⟨rfl, rfl⟩)))
theorem que1_S : PRun Tryz.prog 22 [] [.i 256] fun x m => x = .t [.r 0 0, .i 0] ∧ m = [qO [] 256 1] :=
 PRun.packN que0_S que_nrm ⟨⟨by decide, by decide, by decide, by decide, fun x hx => by simp at hx⟩, [], [], ⟨fun i _ x y hx => by simp at hx, ⟨fun i x hx => by simp at hx, fun id r h => (by cases h), by simp⟩, by simp [Ids]⟩, .refl _, rfl⟩
end
section
set_option maxRecDepth 1000000
variable {Q : V → Mem → Prop}
theorem nilC_S {s : Nat} (k : Q (.nl 19) []) : PRun Tryz.prog 75 [] [.nl s] Q := by
 have hV : Q (.nl 19) [] = runS Tryz.prog ⟨[], [], [], [], [], true, 64, KN.no, true, SP.no⟩ 2 .out 75 [] [] (zbc Tryz.f75) (zx9 Tryz.prog true Tryz.f75 (endS true ([] : Mem).length Q)) (zd2 Tryz.prog true Tryz.f75 [.nl s]) [] := by kernel_rfl
 exact funSG zf4 (gc := true) (H := ⟨[], [], [], [], [], true, 64, KN.no, true, SP.no⟩) (n := 2) Tryz.func75 (by kernel_rfl) (c := zbc Tryz.f75) (by kernel_rfl) (hV ▸ k)
section
variable {P : Program} {D D' : Fz} {ρ ρ' : List Loc} {m m' : Mem} {chs C : List zab} {h h' : zac} {ro hr : List Nat}
def spNil : SP Tryz.prog where
 f ro _ g args m K := cond (z14 g 75) (match args with
   | [.nl _] => some (K (.nl 19) (zuc m [] []))
   | _ => none) none
 ok := by
  intro ro hr X call hX hcall g args m KS p hs hp D ρ chs C h vs xx M ha
  cases hg : z14 g 75 with
  | false => rw [hg] at hs; cases hs
  | true =>
    rw [hg] at hs
    have := z18 hg
    subst this
    simp only [cond_true] at hs
    split at hs
    · cases hs
      exact zig (X := X) ⟨[], .nl 19, [], by simp, fun b hb => by simp at hb, fun b hb => by simp at hb, fun b hb => by simp [zam, zae] at hb, nilC_S ⟨rfl, rfl⟩, hp⟩ M ha
    · cases hs
end
theorem mload_S {c_0 : Int} {c_1 : List (List U)} {c_2 : Int} {c_3 : List (List U)} {c_4 c_5 c_6 c_7 : Int} {p : List (List U)} {pn : Int} {b : List (List U)} {bt : List Int} {G : Ob}
 (hh : PRun Tryz.prog 73 [] [.a [.i c_0, .l 7 c_1, .i c_2, .l 4 c_3, .i c_4, .i c_5, .i c_6, .i c_7]] (post [.I] [] (fun x1 => (bif x1 != 0 then Q (.t [.u (.p none), .i x1]) [.c [.l 5 p, .i pn], .c [.l 5 b, .n .i64 33 bt], .o G, .c [.nl 4, .nm]] else Q (.t [.r 4 0, .i 0]) [.c [.l 5 p, .i pn], .c [.l 5 b, .n .i64 33 bt], .o G, .c [.nl 4, .nm], .c [.i c_0, .l 7 c_1, .i c_2, .l 4 c_3, .i c_4, .i c_5, .i c_6, .i c_7, .r 0 0, .r 1 0, .r 2 0, .r 3 0, .nl 19]] : Prop)))) :
 PRun Tryz.prog 27 [.c [.l 5 p, .i pn], .c [.l 5 b, .n .i64 33 bt], .o G, .c [.nl 4, .nm]] [.a [.i c_0, .l 7 c_1, .i c_2, .l 4 c_3, .i c_4, .i c_5, .i c_6, .i c_7], .r 0 0, .r 1 0, .r 2 0, .r 3 0, .nl 0] Q := by
 have hV : _ = runS Tryz.prog ⟨[], [], [], [], [], false, 64, KN.no, true, spNil⟩ 2 .out 27 [] [] (zbc Tryz.f27) (zx9 Tryz.prog true Tryz.f27 (endS false ([.c [.l 5 p, .i pn], .c [.l 5 b, .n .i64 33 bt], .o G, .c [.nl 4, .nm]] : Mem).length Q)) (zd2 Tryz.prog true Tryz.f27 [.a [.i c_0, .l 7 c_1, .i c_2, .l 4 c_3, .i c_4, .i c_5, .i c_6, .i c_7], .r 0 0, .r 1 0, .r 2 0, .r 3 0, .nl 0]) [.c [.l 5 p, .i pn], .c [.l 5 b, .n .i64 33 bt], .o G, .c [.nl 4, .nm]] := id (by kernel_rfl : (PRun Tryz.prog 73 [] [.a [.i c_0, .l 7 c_1, .i c_2, .l 4 c_3, .i c_4, .i c_5, .i c_6, .i c_7]] (post [.I] [] (fun x1 => (bif x1 != 0 then Q (.t [.u (.p none), .i x1]) [.c [.l 5 p, .i pn], .c [.l 5 b, .n .i64 33 bt], .o G, .c [.nl 4, .nm]] else Q (.t [.r 4 0, .i 0]) [.c [.l 5 p, .i pn], .c [.l 5 b, .n .i64 33 bt], .o G, .c [.nl 4, .nm], .c [.i c_0, .l 7 c_1, .i c_2, .l 4 c_3, .i c_4, .i c_5, .i c_6, .i c_7, .r 0 0, .r 1 0, .r 2 0, .r 3 0, .nl 19]] : Prop)))) = _)
 exact funSG zf4 (gc := true) (H := ⟨[], [], [], [], [], false, 64, KN.no, true, spNil⟩) (n := 2) Tryz.func27 (by kernel_rfl) (c := zbc Tryz.f27) (by kernel_rfl) (hV ▸ hh)
end
section
variable {P : Program} {D D' : Fz} {ρ ρ' : List Loc} {m m' : Mem} {chs C : List zab} {h h' : zac} {ro hr : List Nat}
def z0p (ro : List Nat) : List Nat → Bool
 | [] => true
 | b :: l => !inL ro b && z0p ro l
theorem zq5 {ro : List Nat} : ∀ {l : List Nat}, z0p ro l = true → ∀ b ∈ l, b ∉ ro
 | [], _, b, hb => by simp at hb
 | x :: l, h, b, hb => by
   simp only [z0p, z17, z2u] at h
   rcases z2e.1 hb with rfl | hb
   · exact fun hh => by rw [inL_iff.2 hh] at h; cases h.1
   · exact zq5 h.2 b hb
def spLoad : SP Tryz.prog where
 f ro _ g args m K := cond (z14 g 27) (match args with
   | [.a cs, .r a 0, .r b 0, .r c 0, .r d 0, .nl s] => cond (z19 (a + 1) b && (z19 (b + 1) c && (z19 (c + 1) d && (zgo m.length [a, b, c, d] && (z0p ro [a, b, c, d] && (zd5 [a, b, c, d] ([a, b, c, d].flatMap fun b => za5 (mg m b)) && zd5 [a, b, c, d] (zam args)))))))
     (some (PRun Tryz.prog 27 (zm2 m [a, b, c, d]) (zd8 (fun x => zh9 [a, b, c, d] x 0) args) (fun x m' => x = .t [.r 4 0, .i 0] ∧ m' = zm2 m [a, b, c, d] ++ [.c (cs ++ [.r 0 0, .r 1 0, .r 2 0, .r 3 0, .nl 19])]) ∧
      K (zcf (fK [a, b, c, d] m.length) (.t [.r 4 0, .i 0])) (zuc m [a, b, c, d] (zm2 m [a, b, c, d] ++ [.c (cs ++ [.r 0 0, .r 1 0, .r 2 0, .r 3 0, .nl 19])])))) (some False)
   | _ => none) none
 ok := by
  intro ro hr X call hX hcall g args m KS p hs hp D ρ chs C h vs xx M ha
  cases hg : z14 g 27 with
  | false => rw [hg] at hs; cases hs
  | true =>
    rw [hg] at hs
    have := z18 hg
    subst this
    simp only [cond_true] at hs
    split at hs
    · rename_i cs a b c d s
      generalize hc : (z19 (a + 1) b && (z19 (b + 1) c && (z19 (c + 1) d && (zgo m.length [a, b, c, d] && (z0p (hr ++ ro) [a, b, c, d] && (zd5 [a, b, c, d] ([a, b, c, d].flatMap fun b => za5 (mg m b)) && zd5 [a, b, c, d] (zam [.a cs, .r a 0, .r b 0, .r c 0, .r d 0, .nl s]))))))) = cc at hs
      cases cc with
      | false => cases hs; exact hp.elim
      | true =>
        cases hs
        simp only [z17] at hc
        obtain ⟨h1, h2, h3, h4, h5, h6, h7⟩ := hc
        have h1 := z2w h1
        have h2 := z2w h2
        have h3 := z2w h3
        refine zig (X := X) ⟨[a, b, c, d], _, _, by simp; omega, fun x hx => ⟨zd4 h4 x hx, zq5 h5 x hx⟩, fun x hx y hy => zb0 h6 y (z5u.2 ⟨x, hx, hy⟩), fun x hx => zb0 h7 x hx, hp.1, hp.2⟩ M ha
    · cases hs
end
section
set_option maxRecDepth 100000
theorem mixTb1 : Tryz.prog.follows .mixedOrders = true := by kernel_rfl
theorem S26 {which : Int} {Q : V → Mem → Prop} (hh : 0 ≤ (1 : Int) ∧ (0 ≤ (2 : Int) ∧ (zbo [] [[.n 1, .n 0, .n 1, .n 1, .n 60]] ∧ (zbo [[.n 1, .n 0, .n 1, .n 1, .n 60]] [[.n 1, .n 0, .n 1, .n 2, .n 40]] ∧ (zbo [[.n 1, .n 0, .n 1, .n 1, .n 60], [.n 1, .n 0, .n 1, .n 2, .n 40]] [[.n 1, .n 0, .n 1, .n 3, .n 20]] ∧ (zbo [[.n 1, .n 0, .n 1, .n 1, .n 60], [.n 1, .n 0, .n 1, .n 2, .n 40], [.n 1, .n 0, .n 1, .n 3, .n 20]] [[.n 2, .n 0, .n 1, .n 1, .n 60]] ∧ (zbo [[.n 1, .n 0, .n 1, .n 1, .n 60], [.n 1, .n 0, .n 1, .n 2, .n 40], [.n 1, .n 0, .n 1, .n 3, .n 20], [.n 2, .n 0, .n 1, .n 1, .n 60]] [[.n 2, .n 0, .n 1, .n 2, .n 40]] ∧ (zbo [[.n 1, .n 0, .n 1, .n 1, .n 60], [.n 1, .n 0, .n 1, .n 2, .n 40], [.n 1, .n 0, .n 1, .n 3, .n 20], [.n 2, .n 0, .n 1, .n 1, .n 60], [.n 2, .n 0, .n 1, .n 2, .n 40]] [[.n 2, .n 0, .n 1, .n 3, .n 20]] ∧ (Q (.t [.a [.i 4, .l 7 [[.n 3, .n 2, .n 10, .l 2 [[.n 1, .n 3], [.n 2, .n 1]], .n 2, .n 3, .n 5], [.n 4, .n 1, .n 7, .l 2 [[.n 3, .n 2]], .n 0, .n 0, .n 3]], .i 2, .l 4 [[.n 1, .n (z13 .i64 (1 + z13 .i64 (BitVec.toNat (BitVec.ofInt 64 which &&& (BitVec.ofInt 64 1)) : Int))), .n 1, .n 1000], [.n (z13 .i64 (1 + z13 .i64 (BitVec.toNat (BitVec.ofInt 64 (Int.fdiv which (2 ^ (1))) &&& (BitVec.ofInt 64 1)) : Int))), .n 1, .n (z13 .i64 (BitVec.toNat (BitVec.ofInt 64 (Int.fdiv which (2 ^ (2))) &&& (BitVec.ofInt 64 1)) : Int)), .n 0]], .i 3, .i 200, .i 1, .i 500], .l 2 [[.n 0, .n 0], [.n 1, .n 60], [.n 2, .n 500], [.n 3, .n 2]], .l 5 [[.n 1, .n 0, .n 1, .n 1, .n 60], [.n 1, .n 0, .n 1, .n 2, .n 40], [.n 1, .n 0, .n 1, .n 3, .n 20], [.n 2, .n 0, .n 1, .n 1, .n 60], [.n 2, .n 0, .n 1, .n 2, .n 40], [.n 2, .n 0, .n 1, .n 3, .n 20]], .l 9 [[.n 0, .n 1, .n 0, .n 1, .n 1, .n 0, .n 0, .n (-1), .n 0], [.n 0, .n 2, .n 0, .n 1, .n 2, .n 0, .n 0, .n (-1), .n 0], [.n 0, .n 1, .n 0, .n 1, .n 2, .n 3, .n 0, .n 4, .n 0], [.n 0, .n 2, .n 0, .n 1, .n 1, .n 0, .n 8, .n (-1), .n 0], [.n 0, .n 1, .n 0, .n 2, .n 1, .n 0, .n 0, .n (-1), .n 0]]]) []))))))))) : PRun Tryz.prog 26 [] [.i which] Q :=
 zak mixTb1 Tryz.func26 (by kernel_rfl) (H := ⟨[], [], [], [], [], false, 64, KN.no, false, SP.no⟩) (n := 2) (by kernel_rfl) hh
theorem S7 {which : Int} {Q : V → Mem → Prop} (hh : PRun Tryz.prog 26 [] [.i which] (post [.agg [.i .i64, .l 7, .i .i64, .l 4, .i .i64, .i .i64, .i .i64, .i .i64], .L 2, .L 5, .L 9] [] (fun x1 l1 x2 l2 x3 x4 x5 x6 l3 l4 l5 => (([.l 2 l3] : List V) = purA ∧ (([.l 5 l4] : List V) = binA ∧ (([.i 256] : List V) = [.i 256] ∧ (PRun Tryz.prog 27 [.c [.l 5 (z26 eT p0), .i 562], .c [.l 5 (z26 eT b0), .n .i64 33 (zgb b0)], .o (Ob.of (qS [] 256 1)), .c [.nl 4, .nm]] [.a [.i x1, .l 7 l1, .i x2, .l 4 l2, .i x3, .i x4, .i x5, .i x6], .r 0 0, .r 1 0, .r 2 0, .r 3 0, .nl 0] (fun x m => x = .t [.r 4 0, .i 0] ∧ m = [.c [.l 5 (z26 eT p0), .i 562], .c [.l 5 (z26 eT b0), .n .i64 33 (zgb b0)], .o (Ob.of (qS [] 256 1)), .c [.nl 4, .nm], .c [.i x1, .l 7 l1, .i x2, .l 4 l2, .i x3, .i x4, .i x5, .i x6, .r 0 0, .r 1 0, .r 2 0, .r 3 0, .nl 19]]) ∧ (Q (.t [.a [.r 0 0, .r 1 0, .r 2 0, .r 3 0, .r 4 0], .u (.b true)]) [.c [.i x1, .l 7 l1, .i x2, .l 4 l2, .i x3, .i x4, .i x5, .i x6, .r 1 0, .r 2 0, .r 3 0, .r 4 0, .nl 19], .c [.l 5 (z26 eT p0), .i 562], .c [.l 5 (z26 eT b0), .n .i64 33 (zgb b0)], .o (Ob.of (qS [] 256 1)), .c [.nl 4, .nm]])))) : Prop)))) : PRun Tryz.prog 7 [] [.i which] Q :=
 zak mixTb1 Tryz.func7 (by kernel_rfl) (H := ⟨[], [], [23], [], [], false, 64, KN.no, false, ((((spClo 22 [3] [.i 256] (.t [.r 0 0, .i 0]) [qO [] 256 1] rfl rfl que1_S).or (spClo 33 [88] purA (.t [.r 0 0, .i 0]) [pC p0 562] rfl rfl pur1_S)).or (spClo 34 [89] binA (.t [.r 0 0, .i 0]) [bK b0] rfl rfl bin1_S)).or spLoad)⟩) (n := 3) (by kernel_rfl) hh
end
section
set_option maxRecDepth 1000000
abbrev blW : List (List U) := [[.n 3, .n 2, .n 10, .l 2 [[.n 1, .n 3], [.n 2, .n 1]], .n 2, .n 3, .n 5], [.n 4, .n 1, .n 7, .l 2 [[.n 3, .n 2]], .n 0, .n 0, .n 3]]
abbrev byW (a b c : Int) : List (List U) := [[.n 1, .n a, .n 1, .n 1000], [.n b, .n 1, .n c, .n 0]]
abbrev caW (a b c : Int) : V := .a [.i 4, .l 7 blW, .i 2, .l 4 (byW a b c), .i 3, .i 200, .i 1, .i 500]
def w1 (which : Int) : Int := z13 .i64 (1 + z13 .i64 (BitVec.toNat (BitVec.ofInt 64 which &&& (BitVec.ofInt 64 1)) : Int))
def w2 (which : Int) : Int := z13 .i64 (1 + z13 .i64 (BitVec.toNat (BitVec.ofInt 64 (Int.fdiv which (2 ^ (1))) &&& (BitVec.ofInt 64 1)) : Int))
def w3 (which : Int) : Int := z13 .i64 (BitVec.toNat (BitVec.ofInt 64 (Int.fdiv which (2 ^ (2))) &&& (BitVec.ofInt 64 1)) : Int)
theorem bit01 (x : BitVec 64) : (x &&& BitVec.ofInt 64 1).toNat = 0 ∨ (x &&& BitVec.ofInt 64 1).toNat = 1 := by
 rw [BitVec.toNat_and, show (BitVec.ofInt 64 1).toNat = 1 from rfl, Nat.and_one_is_mod]
 omega
theorem w1_12 (w : Int) : w1 w = 1 ∨ w1 w = 2 := by
 unfold w1
 rcases bit01 (BitVec.ofInt 64 w) with h | h <;> rw [h]
 · exact .inl rfl
 · exact .inr rfl
theorem w2_12 (w : Int) : w2 w = 1 ∨ w2 w = 2 := by
 unfold w2
 rcases bit01 (BitVec.ofInt 64 (Int.fdiv w (2 ^ (1)))) with h | h <;> rw [h]
 · exact .inl rfl
 · exact .inr rfl
theorem w3_01 (w : Int) : w3 w = 0 ∨ w3 w = 1 := by
 unfold w3
 rcases bit01 (BitVec.ofInt 64 (Int.fdiv w (2 ^ (2)))) with h | h <;> rw [h]
 · exact .inl rfl
 · exact .inr rfl
theorem zfl {a b c : Int} (h : funF Tryz.prog (zal whp) (z2b 600) 300 60 73 Tryz.f73 [] [caW a b c] = some [(.i 0, [])]) : PRun Tryz.prog 73 [] [caW a b c] fun x m => x = .i 0 ∧ m = [] :=
 zgn zf4 (zal whp) (inl := z2b 600) (nl := 300) (n := 60) Tryz.func73 (by kernel_rfl) (r := (.i 0, [])) h
theorem cat_S (w : Int) : PRun Tryz.prog 73 [] [caW (w1 w) (w2 w) (w3 w)] fun x m => x = .i 0 ∧ m = [] := by
 rcases w1_12 w with h1 | h1 <;> rcases w2_12 w with h2 | h2 <;> rcases w3_01 w with h3 | h3 <;> rw [h1, h2, h3]
 · exact zfl (by kernel_rfl)
 · exact zfl (by kernel_rfl)
 · exact zfl (by kernel_rfl)
 · exact zfl (by kernel_rfl)
 · exact zfl (by kernel_rfl)
 · exact zfl (by kernel_rfl)
 · exact zfl (by kernel_rfl)
 · exact zfl (by kernel_rfl)
def cW (w : Int) : Ct := ⟨4, blW, 2, byW (w1 w) (w2 w) (w3 w), 3⟩
abbrev R5 : V := .t [.a [.r 0 0, .r 1 0, .r 2 0, .r 3 0, .r 4 0], .u (.b true)]
abbrev cellsM (C : Ct) : List V := [.i C.c0, .l 7 C.c1, .i C.c2, .l 4 C.c3, .i C.c4, .i 200, .i 1, .i 500, .r 1 0, .r 2 0, .r 3 0, .r 4 0]
abbrev M0 (C : Ct) : Mem := [.c (cellsM C ++ [.nl 19]), pC p0 562, bK b0, qO [] 256 1, .c [.nl 4, .nm]]
theorem begun0_S (w : Int) : PRun Tryz.prog 7 [] [.i w] fun x m => x = R5 ∧ m = M0 (cW w) := by
 refine S7 (S26 ?_)
 refine ⟨by omega, by omega, ?_⟩
 refine ⟨by unfold zbo; simp, by unfold zbo; simp, by unfold zbo; simp, by unfold zbo; simp, by unfold zbo; simp, by unfold zbo; simp, ?_⟩
 refine ⟨rfl, rfl, rfl, mload_S ?_, rfl, rfl⟩
 refine (cat_S w).mono ?_
 rintro _ _ ⟨rfl, rfl⟩
 exact ⟨rfl, rfl⟩
theorem zn6 {D : Fz} {ρ : List Loc} {b s : Nat} {L : Loc} (hb : ρ[b]? = some L) (h1 : L.a = none) (h2 : L.n = 0) (h3 : L.c = 0) : ∀ {l : List V} {vs : List Value}, RpC D ρ vs (l ++ [.nl s]) → RpC D ρ vs (l ++ [.w b])
 | [], _, h => by
   cases h with
   | cons a _ c =>
     cases a
     have := Rp.w (D := D) hb
     rw [h1, h2, h3] at this
     exact .cons this (fun _ _ _ h => nomatch h) c
 | x :: l, _, h => by
   cases h with
   | cons a k c => exact .cons a k (zn6 hb h1 h2 h3 c)
   | n e c => exact .n e (zn6 hb h1 h2 h3 c)
theorem M0_S {D : Fz} {ρ : List Loc} {chs C : List zab} {h : zac} {c : Ct} (M : SAt D ρ (M0 c) chs C h) : ∃ chs', SAt D (ρ ++ [⟨0, none, 0, 0, none⟩]) (M5 c p0 562 b0 (Ob.of (qS [] 256 1)) (Ob.of (zfw [])) []) chs' C h := by
 have l1 := M.len
 have l2 := M.lch
 match ρ, chs, l1, l2 with
 | [L0, L1, L2, L3, L4], [c0, c1, c2, c3, c4], _, _ =>
   have e := fun i L ab ch a b c => (M.ent i L ab ch a b c).mono (.refl D) [⟨0, none, 0, 0, none⟩]
   refine ⟨[c0, c1, c2, c3, c4, []], rfl, rfl, fun i L ab ch q1 q2 q3 => ?_, M.st.perm (by simp)⟩
   match i, q1, q2, q3 with
   | 0, q1, q2, q3 =>
     have e0 := e 0 L0 _ c0 rfl rfl rfl
     cases q1; cases q2; cases q3
     cases e0 with
     | c hc => exact .c (zn6 (b := 5) (L := ⟨0, none, 0, 0, none⟩) rfl rfl rfl rfl hc)
   | 1, q1, q2, q3 => cases q1; cases q2; cases q3; exact e 1 L1 _ c1 rfl rfl rfl
   | 2, q1, q2, q3 => cases q1; cases q2; cases q3; exact e 2 L2 _ c2 rfl rfl rfl
   | 3, q1, q2, q3 => cases q1; cases q2; cases q3; exact e 3 L3 _ c3 rfl rfl rfl
   | 4, q1, q2, q3 =>
     have e4 := e 4 L4 _ c4 rfl rfl rfl
     cases q1; cases q2; cases q3
     refine .o ⟨[.c [.nl 4, .nm]], [L4], [c4], .inl ⟨rfl, rfl⟩, rfl, rfl, ⟨L4, rfl, rfl⟩, by simp, fun i L ab ch q1 q2 q3 => ?_⟩
     cases i with
     | succ i => simp at q1
     | zero =>
       cases q1; cases q2; cases q3
       cases e4 with
       | c hc =>
         cases hc with
         | cons a1 _ hc =>
           cases hc with
           | cons a2 _ hc =>
             cases hc
             cases a1; cases a2
             exact .c (.cons .nl (fun _ _ _ h => nomatch h) (.cons .nm (fun _ _ _ h => nomatch h) .nil))
   | 5, q1, q2, q3 => cases q1; cases q2; cases q3; exact .w .nil rfl
   | i + 6, q1, q2, q3 => simp at q2
theorem begun_S (w : Int) : PRun Tryz.prog 7 [] [.i w] fun x m => x = R5 ∧ m = M5 (cW w) p0 562 b0 (Ob.of (qS [] 256 1)) (Ob.of (zfw [])) [] := by
 intro D ρ chs C h vs M F
 have hρ : ρ = [] := z3w M.len
 subst hρ
 refine (begun0_S w D [] chs C h vs M F).mono ?_
 rintro v h2 ⟨D2, s, cs, x, m', le, M2, hv, rfl, rfl⟩
 obtain ⟨cs', M3⟩ := M0_S M2
 refine ⟨D2, s ++ [⟨0, none, 0, 0, none⟩], cs', _, _, le, by simpa using M3, ?_, rfl, rfl⟩
 have := hv.mono (.refl D2) (s := [⟨0, none, 0, 0, none⟩])
 simpa using this
end
section
set_option maxRecDepth 100000
def zer (d : Dl) : Int := if d.st = 2 then d.pay + d.pledge else if d.st = 1 then dPd d else 0
structure MI (s : Wd) : Prop where
 z0 : zb5 0 s.p = true
 own : ∀ (i : Nat) (d : Dl), s.ds[i]? = some d → opn d = true → d.iss < 1048576 ∧ zb5 d.iss s.p = true ∧ (d.st = 2 → d.taker < 1048576 ∧ zb5 d.taker s.p = true)
 mon : ∀ (i : Nat) (d : Dl), s.ds[i]? = some d → zag (oK (vO ((i : Int) + 1))) s.p = zer d
 mz : ∀ j : Int, (s.ds.length : Int) < j → zag (oK (vO j)) s.p = 0
 bn : ∀ (i : Nat) (d : Dl), s.ds[i]? = some d → ∀ t, zag (bin (vK ((i : Int) + 1) d.place) t) s.b = if opn d = true then zee t d.gives else 0
 bz : ∀ j : Int, (s.ds.length : Int) < j → ∀ pl t, zag (bin (vK j pl) t) s.b = 0
 tot : ∀ t, tyQ t s.b = tyQ t b0
theorem zp9 {i j : Int} (h : vO i = vO j) : i = j := by unfold vO at h; omega
theorem movP_val {f t n : Int} {p : Tb} {n0 : Int} (hp : PInv p n0) (hm : zdi f t n p = 0) : PInv (zxd f t n p) n0 ∧ (∀ j, zag (oK j) (zxd f t n p) = zag (oK j) p + (if j = t then n else 0) - (if j = f then n else 0)) ∧ ∀ j, zb5 j p = true → zb5 j (zxd f t n p) = true := by
 unfold zxd
 rw [if_pos hm]
 exact ⟨hp.move hm, fun j => zhc hp.srt j, fun j h => zhd hp.srt h⟩
theorem zoq {f id n : Int} {p : Tb} {n0 : Int} (hp : PInv p n0) (hid : 1 ≤ id ∧ id < 1048576) (hf : zb5 f p = true) (hn : 0 ≤ n) (hen : n ≤ zag (oK f) p) :
 (∀ j, zag (oK j) (zj9 f id n p) = zag (oK j) p + (if j = vO id then n else 0) - (if j = f then n else 0)) ∧ ∀ j, zb5 j p = true → zb5 j (zj9 f id n p) = true := by
 have he : payE f id n p = 0 := by unfold payE; rw [if_pos hf, if_neg (by omega), if_neg (by omega)]
 have ho : 0 ≤ vO id ∧ vO id ≤ 1099511627776 := by unfold vO; omega
 unfold zj9
 rw [if_pos he]
 unfold payL
 refine ⟨fun j => ?_, fun j h => ?_⟩
 · rw [zhc (zq1 hp.srt), zq0 hp.srt ho]
 · exact zhd (zq1 hp.srt) (by rw [zkc hp.srt ho, h, Bool.or_true])
theorem zo2 {x : K4} {j pl t : Int} (h : x.a ≠ vO j) : zhj x (bin (vK j pl) t) = false := by
 rw [z6h]
 intro hh
 have := congrArg K4.a (inDv_iff.1 hh)
 exact h this.symm
theorem inDv_vK {i j p q t : Int} : zhj (vK i p) (bin (vK j q) t) = true ↔ i = j ∧ p = q := by
 rw [inDv_iff]
 constructor
 · intro h
   have h1 := congrArg K4.a h
   have h2 := congrArg K4.c h
   exact ⟨(zp9 h1).symm, h2.symm⟩
 · rintro ⟨rfl, rfl⟩; rfl
theorem zf7 {o j : Int} (h : o < 1048576) (hj : 0 ≤ j) : o ≠ vO j := by unfold vO; omega
theorem z1e {to : K4} {id pl : Int} {b : Tb} (hb : BInv b) (hto : to.a < 1048576) : (∀ j q t, 0 ≤ j → zag (bin (vK j q) t) (zd9 to (zdx (vK id pl) b) (rmv (vK id pl) b)) = if id = j ∧ pl = q then 0 else zag (bin (vK j q) t) b) ∧ ∀ t, tyQ t (zd9 to (zdx (vK id pl) b) (rmv (vK id pl) b)) = tyQ t b := by
 refine ⟨fun j q t hj => ?_, fun t => ?_⟩
 · rw [zjh (hb.rmv _).srt, zo2 (zf7 hto hj), if_neg (by simp), rmv_val hb.srt]
   by_cases h : id = j ∧ pl = q
   · rw [if_pos h, if_pos (inDv_vK.2 h)]
   · rw [if_neg h, if_neg (fun hh => h (inDv_vK.1 hh))]
 · rw [zoi t (hb.rmv _).srt, zyv]
theorem zvf {d : Dl} {st tax : Int} {p p' : Tb} {n : Int} (hp : PInv p n) (hF : PayF d st tax p p') (hok : ze9 (zf5 d st tax) (zag (oK (vO d.id)) p)) (ha : ∀ x ∈ zf5 d st tax, zb5 x.2.1 p = true ∧ x.2.1 < 1048576) (hid : 0 ≤ d.id) :
 zag (oK (vO d.id)) p' = 0 ∧ (∀ j, 0 ≤ j → j ≠ d.id → zag (oK (vO j)) p' = zag (oK (vO j)) p) ∧ ∀ j, zb5 j p = true → zb5 j p' = true := by
 rcases hF with ⟨-, -, rfl⟩ | ⟨hbad, -⟩
 · obtain ⟨g1, g2, g3⟩ := zj8 hp (fun x hx => ⟨(ha x hx).1, zf7 (ha x hx).2 hid⟩) hok
   exact ⟨g1, fun j hj hne => g2 _ (fun e => hne (zp9 e)) fun x hx => zf7 (ha x hx).2 hj, g3⟩
 · exact absurd ⟨hok, fun x hx => (ha x hx).1⟩ hbad
theorem zg5 {a n : Int} (h : 0 ≤ n) : ze9 (nzP [(0, a, n)]) n ∧ ∀ x ∈ nzP [(0, a, n)], x.2.1 = a := by
 by_cases e : n = 0
 · subst e
   rw [ztn]
   exact ⟨rfl, fun x hx => by simp at hx⟩
 · have : nzP [(0, a, n)] = [(0, a, n)] := by
    unfold nzP
    rw [z3m (by simpa using e)]; rfl
   rw [this]
   refine ⟨⟨rfl, h, z2v _, by show n - n = 0; omega⟩, fun x hx => ?_⟩
   simp only [z3v] at hx
   subst hx; rfl
theorem z0d {a b m n : Int} (hm : 0 ≤ m) (hn : 0 ≤ n) : ze9 (nzP [(0, a, m), (0, b, n)]) (m + n) ∧ ∀ x ∈ nzP [(0, a, m), (0, b, n)], x.2.1 = a ∨ x.2.1 = b := by
 have h1 := zg5 (a := b) hn
 by_cases e : m = 0
 · subst e
   rw [ztn, z5j]
   exact ⟨h1.1, fun x hx => .inr (h1.2 x hx)⟩
 · have : nzP [(0, a, m), (0, b, n)] = (0, a, m) :: nzP [(0, b, n)] := by
    unfold nzP
    rw [z3m (by simpa using e)]
   rw [this]
   refine ⟨⟨rfl, hm, by show m ≤ m + n; omega, by show ze9 _ (m + n - m); rw [show m + n - m = n by omega]; exact h1.1⟩, fun x hx => ?_⟩
   rcases z2e.1 hx with rfl | hx
   · exact .inl rfl
   · exact .inr (h1.2 x hx)
end
section
set_option maxRecDepth 100000
theorem MI.gone {n : Nat} {s : Wd} (hW : WC n s) (h : MI s) {i : Nat} {d d' : Dl} {p' b' : Tb} {T' : List Tm} {next' : Int} {Lg' : List Mk} (hd : s.ds[i]? = some d) (ho' : opn d' = false) (hpl : d'.place = d.place)
 (h1 : zag (oK (vO d.id)) p' = 0) (h2 : ∀ j, 0 ≤ j → j ≠ d.id → zag (oK (vO j)) p' = zag (oK (vO j)) s.p) (h3 : ∀ j, zb5 j s.p = true → zb5 j p' = true)
 (h4 : ∀ j q t, 0 ≤ j → zag (bin (vK j q) t) b' = if d.id = j ∧ d.place = q then 0 else zag (bin (vK j q) t) s.b) (h5 : ∀ t, tyQ t b' = tyQ t s.b) : MI ⟨p', b', T', next', Lg', s.ds.set i d'⟩ := by
 have hlt := (z2a.1 hd).1
 have hid := (hW.dok i d hd).2
 have hl0 : zer d' = 0 := by
  unfold opn at ho'
  simp only [z49, beq_eq_false_iff_ne] at ho'
  unfold zer
  rw [if_neg ho'.2, if_neg ho'.1]
 exact {
  z0 := h3 0 h.z0
  own := fun j e he hoe => by
   simp only at he
   rw [z31] at he
   split at he
   · cases he; rw [ho'] at hoe; cases hoe
   · obtain ⟨a, b, c⟩ := h.own j e he hoe
     exact ⟨a, h3 _ b, fun x => ⟨(c x).1, h3 _ (c x).2⟩⟩
  mon := fun j e he => by
   simp only at he ⊢
   rw [z31] at he
   split at he
   · rename_i hij
     subst hij
     cases he
     rw [hl0, ← hid]; exact h1
   · rename_i hij
     rw [h2 _ (by omega) (by omega)]
     exact h.mon j e he
  mz := fun j hj => by
   simp only [z3d] at hj ⊢
   rw [h2 j (by omega) (by omega)]
   exact h.mz j hj
  bn := fun j e he t => by
   simp only at he ⊢
   rw [z31] at he
   split at he
   · rename_i hij
     subst hij
     cases he
     rw [if_neg (by simp [ho']), h4 _ _ _ (by omega), if_pos ⟨hid, hpl.symm⟩]
   · rename_i hij
     rw [h4 _ _ _ (by omega), if_neg (by omega)]
     exact h.bn j e he t
  bz := fun j hj pl t => by
   simp only [z3d] at hj ⊢
   rw [h4 _ _ _ (by omega), if_neg (by omega)]
   exact h.bz j hj pl t
  tot := fun t => by simp only; rw [h5]; exact h.tot t }
theorem MI.clo {n : Nat} {s : Wd} (hW : WC n s) (h : MI s) {i : Nat} {d : Dl} {st : Int} {p' : Tb} {T' : List Tm} {next' : Int} {Lg' : List Mk} (hd : s.ds[i]? = some d) (hok : dOk d = true) (hm : zja d st = true) (hF : PayF d st 0 s.p p') :
 MI ⟨p', zd9 (toK d st) (zdx (vK d.id d.place) s.b) (rmv (vK d.id d.place) s.b), T', next', Lg', s.ds.set i (zt5 d st)⟩ := by
 have hid := (hW.dok i d hd).2
 have ho := zcc hok
 have hop := zpb hm
 have hmi := zhs hm
 obtain ⟨o1, o2, o3⟩ := h.own i d hd hop.1
 have hmon := h.mon i d hd
 have hpay := ho.pay
 have hpay2 : ze9 (zf5 d st 0) (zer d) ∧ ∀ x ∈ zf5 d st 0, zb5 x.2.1 s.p = true ∧ x.2.1 < 1048576 := by
  have hns : zfi d st = false := by
   unfold zfi
   rw [z6h]
   intro hh
   simp only [z17, beq_iff_eq] at hh
   omega
  unfold zf5 zi9
  rw [hns]
  simp only [z3n, if_false]
  rcases ho.kind with hk | hk
  · rw [if_neg (by omega)]
    by_cases h3 : st = 3
    · rw [if_pos h3]
      have h2 : d.st = 2 := by omega
      obtain ⟨g1, g2⟩ := zg5 (a := d.taker) (n := d.pay + d.pledge) (by omega)
      unfold zer
      rw [if_pos h2]
      exact ⟨g1, fun x hx => by rw [g2 x hx]; exact ⟨(o3 h2).2, (o3 h2).1⟩⟩
    · rw [if_neg h3]
      by_cases h4 : st = 4
      · rw [if_pos h4]
        have h2 : d.st = 2 := by omega
        obtain ⟨g1, g2⟩ := zg5 (a := d.iss) (n := d.pay + d.pledge) (by omega)
        unfold zer
        rw [if_pos h2]
        exact ⟨g1, fun x hx => by rw [g2 x hx]; exact ⟨o2, o1⟩⟩
      · rw [if_neg h4]
        have h2 : d.st = 1 := by omega
        obtain ⟨g1, g2⟩ := zg5 (a := d.iss) (n := d.pay) (by omega)
        unfold zer dPd
        rw [if_neg (by omega), if_pos h2, if_pos hk.1]
        exact ⟨g1, fun x hx => by rw [g2 x hx]; exact ⟨o2, o1⟩⟩
  · rw [if_pos hk.1]
    have h2 : d.st = 1 := by
     rcases hmi with hh | hh | hh
     · have := (ho.taken hh.1).1
       omega
     · exact hh.1
     · exact hh.1
    unfold zer dPd
    rw [if_neg (by omega), if_pos h2, if_neg (by omega)]
    exact ⟨rfl, fun x hx => by simp at hx⟩
 rw [← hmon, ← hid] at hpay2
 obtain ⟨g1, g2, g3⟩ := zvf hW.pinv hF hpay2.1 hpay2.2 (by omega)
 have hto : (toK d st).a < 1048576 := by
  unfold toK
  split
  · exact o1
  · split
    · exact (o3 (by omega)).1
    · exact o1
 obtain ⟨l1, l2⟩ := z1e (to := toK d st) (id := d.id) (pl := d.place) hW.binv hto
 exact MI.gone hW h hd hop.2 rfl g1 g2 g3 l1 l2
theorem MI.iss {n : Nat} {s : Wd} (hW : WC n s) (h : MI s) {C : Ct} {now next' : Int} {d : Dl} {p' b' : Tb} {T' : List Tm} (ho : d.iss < 1048576) (F : IssF C now d s.ds.length s.p 562 s.b p' b') : MI ⟨p', b', T', next', s.Lg, s.ds ++ [zpz d s.ds.length now]⟩ := by
 have hk := zcc F.drw.ok
 have hiss : 1 ≤ d.iss ∧ d.iss ≤ 1099511627776 := hk.iss
 have hpay : 0 ≤ d.pay ∧ d.pay ≤ 1152921504606846976 := hk.pay
 have hple : 0 ≤ d.pledge := by
  rcases hk.kind with hh | hh
  · exact hh.2.2.2.2.2.1
  · have : d.pledge = 0 := hh.2
    omega
 have hfee := zt1 (n := d.pay + d.pledge) ⟨by omega, F.drw.sum⟩
 have hpd : 0 ≤ dPd d := by unfold dPd; split <;> omega
 have hen := F.enough
 have hroom := F.drw.room
 have hm : zdi d.iss 0 (zl4 (d.pay + d.pledge)) s.p = 0 := by
  unfold zdi zkl
  rw [F.drw.has, h.z0]
  simp
  omega
 obtain ⟨q0, q1, q2⟩ := movP_val hW.pinv hm
 have v0 := q1 d.iss
 rw [if_neg (by omega), if_pos rfl] at v0
 obtain ⟨r1, r2⟩ := zoq (f := d.iss) (id := (s.ds.length : Int) + 1) (n := dPd d) q0 (by omega) (q2 _ F.drw.has) hpd (by omega)
 rw [← F.pur] at r1 r2
 have hv : ∀ j, 0 ≤ j → zag (oK (vO j)) p' = zag (oK (vO j)) s.p + if j = (s.ds.length : Int) + 1 then dPd d else 0 := fun j hj => by
  rw [r1, q1, if_neg (show vO j ≠ 0 by unfold vO; omega), if_neg (zf7 ho hj).symm, if_neg (zf7 ho hj).symm]
  by_cases e : j = (s.ds.length : Int) + 1
  · rw [if_pos e, if_pos (by rw [e])]; omega
  · rw [if_neg e, if_neg (fun h => e (zp9 h))]; omega
 obtain ⟨l1, ht, hl1, hb'⟩ := F.bins
 obtain ⟨l2, ht2, hval, hty⟩ := zey hW.binv.srt (zfk hk.gives) F.lie
 have hg : (zpz d s.ds.length now).gives = d.gives := rfl
 rw [hg] at ht2 hval hty
 rw [ht] at ht2
 cases ht2
 have hbv : ∀ j q t, 0 ≤ j → zag (bin (vK j q) t) b' = if (s.ds.length : Int) + 1 = j ∧ d.place = q then zag (bin (vK j q) t) s.b + zee t d.gives else zag (bin (vK j q) t) s.b := fun j q t hj => by
  rw [hb', zjh hl1.srt, hval, zo2 (x := ⟨d.iss, d.div, d.place, 1⟩) (zf7 ho hj), if_neg (show ¬ (false = true) by simp)]
  by_cases e : (s.ds.length : Int) + 1 = j ∧ d.place = q
  · rw [if_pos e, if_pos (inDv_vK.2 e)]
  · rw [if_neg e, if_neg (fun hh => e (inDv_vK.1 hh))]
 exact {
  z0 := r2 0 (q2 0 h.z0)
  own := fun j e he hoe => by
   simp only at he
   rw [z5x] at he
   split at he
   · obtain ⟨a, b, c⟩ := h.own j e he hoe
     exact ⟨a, r2 _ (q2 _ b), fun x => ⟨(c x).1, r2 _ (q2 _ (c x).2)⟩⟩
   · have : j - s.ds.length = 0 := by
      have := (z2a.1 he).1
      simpa using this
     rw [this] at he
     simp at he
     subst he
     exact ⟨ho, r2 _ (q2 _ F.drw.has), fun x => by
      have : (1 : Int) = 2 := x
      omega⟩
  mon := fun j e he => by
   simp only at he ⊢
   rw [hv _ (by omega)]
   rw [z5x] at he
   split at he
   · rename_i hj
     rw [if_neg (by omega), h.mon j e he]; omega
   · rename_i hj
     have hz : j - s.ds.length = 0 := by
      have := (z2a.1 he).1
      simpa using this
     rw [hz] at he
     simp at he
     subst he
     rw [if_pos (by omega), h.mz _ (by omega), z5j]
     unfold zer
     have e1 : (zpz d s.ds.length now).st = 1 := rfl
     rw [if_neg (by rw [e1]; decide), if_pos e1]
     rfl
  mz := fun j hj => by
   simp only [z2z, z2o, z36] at hj ⊢
   rw [hv j (by omega), if_neg (by omega), h.mz j (by omega)]; rfl
  bn := fun j e he t => by
   simp only at he ⊢
   rw [hbv _ _ _ (by omega)]
   rw [z5x] at he
   split at he
   · rename_i hj
     rw [if_neg (by omega)]
     exact h.bn j e he t
   · rename_i hj
     have hz : j - s.ds.length = 0 := by
      have := (z2a.1 he).1
      simpa using this
     rw [hz] at he
     simp at he
     subst he
     rw [if_pos ⟨by omega, rfl⟩, h.bz _ (by omega), z5j, if_pos (show opn (zpz d s.ds.length now) = true from rfl)]
     rfl
  bz := fun j hj pl t => by
   simp only [z2z, z2o, z36] at hj ⊢
   rw [hbv _ _ _ (by omega), if_neg (by omega)]
   exact h.bz j (by omega) pl t
  tot := fun t => by
   simp only
   rw [hb', zoi t hl1.srt, hty, ← h.tot t]; omega }
theorem MI.tak1 {n : Nat} {s : Wd} (hW : WC n s) (h : MI s) {now taker into next' : Int} {i : Nat} {d : Dl} {T' : List Tm} (hd : s.ds[i]? = some d) (F : TakF now taker into d s.p s.b) (hk : d.kind = 1) (ht : taker < 1048576) : MI ⟨zj9 taker d.id d.pledge s.p, s.b, T', next', s.Lg, s.ds.set i (zco d now taker into)⟩ := by
 have hlt := (z2a.1 hd).1
 have hid := (hW.dok i d hd).2
 have hdl := hW.dlen
 have ho := zcc F.ok
 have hopn : opn d = true := by unfold opn; rw [F.st]; rfl
 have etk : zco d now taker into = { d with st := 2, due := now + d.days, taker := taker, into := into } := by unfold zco; rw [if_neg (by omega)]
 have hple : 0 ≤ d.pledge := by
  rcases ho.kind with hh | hh <;> omega
 have hen := F.enough
 rw [if_neg (by omega)] at hen
 obtain ⟨r1, r2⟩ := zoq (f := taker) (id := d.id) (n := d.pledge) hW.pinv (by omega) F.has hple hen
 have hv : ∀ j, 0 ≤ j → zag (oK (vO j)) (zj9 taker d.id d.pledge s.p) = zag (oK (vO j)) s.p + if j = d.id then d.pledge else 0 := fun j hj => by
  rw [r1, if_neg (zf7 ht hj).symm]
  by_cases e : j = d.id
  · rw [if_pos e, if_pos (by rw [e])]; omega
  · rw [if_neg e, if_neg (fun h => e (zp9 h))]; omega
 obtain ⟨o1, o2, -⟩ := h.own i d hd hopn
 exact {
  z0 := r2 0 h.z0
  own := fun j e he hoe => by
   simp only at he
   rw [z31] at he
   split at he
   · cases he
     rw [etk]
     exact ⟨o1, r2 _ o2, fun _ => ⟨ht, r2 _ F.has⟩⟩
   · obtain ⟨a, b, c⟩ := h.own j e he hoe
     exact ⟨a, r2 _ b, fun x => ⟨(c x).1, r2 _ (c x).2⟩⟩
  mon := fun j e he => by
   simp only at he ⊢
   rw [hv _ (by omega)]
   rw [z31] at he
   split at he
   · rename_i hij
     subst hij
     cases he
     rw [if_pos (by omega), h.mon i d hd, etk]
     unfold zer dPd
     rw [if_neg (by have := F.st; omega), if_pos F.st, if_pos hk, if_pos (show (2 : Int) = 2 from rfl)]
   · rename_i hij
     rw [if_neg (by omega), h.mon j e he]; omega
  mz := fun j hj => by
   simp only [z3d] at hj ⊢
   rw [hv j (by omega), if_neg (by omega), h.mz j hj]; rfl
  bn := fun j e he t => by
   simp only at he ⊢
   rw [z31] at he
   split at he
   · rename_i hij
     subst hij
     cases he
     have hb := h.bn i d hd t
     rw [if_pos hopn] at hb
     rw [etk]
     exact hb
   · exact h.bn j e he t
  bz := fun j hj pl t => by
   simp only [z3d] at hj ⊢
   exact h.bz j hj pl t
  tot := h.tot }
theorem MI.tak2 {n : Nat} {s : Wd} (hW : WC n s) (h : MI s) {now taker into next' : Int} {i : Nat} {d : Dl} {T' : List Tm} {b1 p' : Tb} {Lg' : List Mk} (hd : s.ds[i]? = some d) (F : TakF now taker into d s.p s.b) (hk : d.kind = 2) (ht : taker < 1048576)
 (htk : zct ⟨taker, into, d.place, 1⟩ d.wants s.b = some b1) (hb1 : BInv b1) (hb2 : BInv (zd9 ⟨d.iss, d.div, d.place, 1⟩ d.wants b1)) (hF : PayF d 3 (d.pay * 500 / 10000) (zj9 taker d.id d.pay s.p) p') (hpp : PInv (zj9 taker d.id d.pay s.p) 562) :
 MI ⟨p', zd9 ⟨taker, into, d.place, 1⟩ (zdx (vK d.id d.place) (zd9 ⟨d.iss, d.div, d.place, 1⟩ d.wants b1)) (rmv (vK d.id d.place) (zd9 ⟨d.iss, d.div, d.place, 1⟩ d.wants b1)), T', next', Lg', s.ds.set i (zco d now taker into)⟩ := by
 have hlt := (z2a.1 hd).1
 have hid := (hW.dok i d hd).2
 have hdl := hW.dlen
 have ho := zcc F.ok
 have hpay := ho.pay
 have hopn : opn d = true := by unfold opn; rw [F.st]; rfl
 have etk : zco d now taker into = { d with st := 3, due := 0, taker := taker, into := into } := by unfold zco; rw [if_pos hk]
 have hen := F.enough
 rw [if_pos hk] at hen
 obtain ⟨r1, r2⟩ := zoq (f := taker) (id := d.id) (n := d.pay) hW.pinv (by omega) F.has hpay.1 hen
 have hv : ∀ j, 0 ≤ j → zag (oK (vO j)) (zj9 taker d.id d.pay s.p) = zag (oK (vO j)) s.p + if j = d.id then d.pay else 0 := fun j hj => by
  rw [r1, if_neg (zf7 ht hj).symm]
  by_cases e : j = d.id
  · rw [if_pos e, if_pos (by rw [e])]; omega
  · rw [if_neg e, if_neg (fun h => e (zp9 h))]; omega
 obtain ⟨o1, o2, -⟩ := h.own i d hd hopn
 have hl0 : zer d = 0 := by unfold zer dPd; rw [if_neg (by have := F.st; omega), if_pos F.st, if_neg (by omega)]
 have hvd : zag (oK (vO d.id)) (zj9 taker d.id d.pay s.p) = d.pay := by
  have := h.mon i d hd
  rw [hv _ (by omega), if_pos rfl]
  rw [← hid, hl0] at this
  omega
 have hpo : ze9 (zf5 d 3 (d.pay * 500 / 10000)) (zag (oK (vO d.id)) (zj9 taker d.id d.pay s.p)) ∧ ∀ x ∈ zf5 d 3 (d.pay * 500 / 10000), zb5 x.2.1 (zj9 taker d.id d.pay s.p) = true ∧ x.2.1 < 1048576 := by
  have hs : zfi d 3 = true := by unfold zfi; rw [hk, F.st]; rfl
  unfold zf5 zi9
  rw [hs, hvd]
  simp only [if_true]
  obtain ⟨g1, g2⟩ := z0d (a := d.iss) (b := 0) (m := d.pay - d.pay * 500 / 10000) (n := d.pay * 500 / 10000) (by omega) (by omega)
  rw [show d.pay - d.pay * 500 / 10000 + d.pay * 500 / 10000 = d.pay by omega] at g1
  refine ⟨g1, fun x hx => ?_⟩
  rcases g2 x hx with e | e <;> rw [e]
  · exact ⟨r2 _ o2, o1⟩
  · exact ⟨r2 _ h.z0, by omega⟩
 obtain ⟨g1, g2, g3⟩ := zvf hpp hF hpo.1 hpo.2 (by omega)
 obtain ⟨l2, ht2, hval, hty⟩ := zey hW.binv.srt (zfk ho.wants) F.lie
 rw [htk] at ht2
 cases ht2
 obtain ⟨y1, y2⟩ := z1e (to := ⟨taker, into, d.place, 1⟩) (id := d.id) (pl := d.place) hb2 ht
 refine MI.gone hW h hd (by rw [etk]; rfl) (by rw [etk]) g1 (fun j hj hne => ?_) (fun j hj => g3 j (r2 j hj)) (fun j q t hj => ?_) fun t => ?_
 · rw [g2 j hj hne, hv j hj, if_neg hne]; omega
 · rw [y1 j q t hj, zjh hb1.srt, hval, zo2 (x := ⟨d.iss, d.div, d.place, 1⟩) (zf7 o1 hj), if_neg (show ¬ (false = true) by simp), zo2 (x := ⟨taker, into, d.place, 1⟩) (zf7 ht hj), if_neg (show ¬ (false = true) by simp)]
 · rw [y2, zoi t hb1.srt, hty]; omega
theorem MI.step {n : Nat} {s s' : Wd} {kind iss taker : Int} (hW : WC n s) (h : MI s) (h1 : iss < 1048576) (h2 : kind = 2 → taker < 1048576) (hs : Stp kind iss taker s s') : MI s' := by
 cases hs with
 | iss k e F => exact h.iss hW (by omega) F
 | tak1 k hd F hk => exact h.tak1 hW hd F hk (h2 k)
 | tak2 k hd F hk htk hb1 hb2 hF hpp => exact h.tak2 hW hd F hk (h2 k) htk hb1 hb2 hF hpp
 | clo k hd hok hm hF => exact h.clo hW hd hok hm hF
theorem MI.fir {n : Nat} {s s' : Wd} {i : Nat} {d : Dl} (hW : WC n s) (h : MI s) (F : Fir s i d s') : MI s' := by
 obtain ⟨p', b', T', next', Lg', ds'⟩ := s'
 have e1 := F.bins
 have e2 := F.ds
 simp only at e1 e2
 subst e1 e2
 exact h.clo hW F.hd F.ok F.may F.pay
end
section
set_option maxRecDepth 1000000
variable {Q : V → Mem → Prop}
theorem zz7 {C : Ct} {p : Tb} {pn : Int} {b : Tb} {G L : Ob} {ds : List Dl} {F : Int → Int → Int → FM} {e e' e2 : Int} : post [.I, .I, .I] patM F (.t [.i e, .i e', .i e2]) (M6 C p pn b G L ds) = F e e' e2 C.c0 C.c1 C.c2 C.c3 C.c4 200 1 500 (ds.map zda) (p.map eT) pn (b.map eT) (zgb b) G L := rfl
theorem zve {C : Ct} {p : Tb} {pn : Int} {b : Tb} {G L : Ob} {ds : List Dl} {F : Int → Int → FM} {e e' : Int} : post [.I, .I] patM F (.t [.i e, .i e']) (M6 C p pn b G L ds) = F e e' C.c0 C.c1 C.c2 C.c3 C.c4 200 1 500 (ds.map zda) (p.map eT) pn (b.map eT) (zgb b) G L := rfl
theorem zqt {F : Int → Int → Int → Bool → Ob → Prop} {t : Tm} {c : Bool} {X : Ob} : post [.agg [.i .i64, .i .i64, .i .i64], .B] [.A] F (.t [tV t, .u (.b c)]) [.o X] = F t.1 t.2.1 t.2.2 c X := rfl
abbrev aV (kind id an into : Int) (d : Dl) : V := .a [.i kind, .i id, .i an, .i into, .i d.id, .i d.kind, .i d.iss, .i d.div, .i d.bye, .i d.to, .i d.place, .i d.dest, .i d.pay, .i d.pledge, .i d.lasts, .i d.days, .i d.fee, .l 2 (d.gives.map eS), .l 2 (d.wants.map eS), .i d.st, .i d.due, .i d.taker, .i d.into]
theorem do_S {C : Ct} {n : Nat} {now kind id an into : Int} {s : Wd} {d : Dl} (hW : WC n s) (hn : n ≤ 60) (ht0 : 0 ≤ now) (ht1 : now ≤ 255 * n) (hl : zfd s.Lg ≤ now) (hd : ∀ t ∈ s.T, now < t.1) (g1 : d.gives.length ≤ 12) (g2 : d.wants.length ≤ 12) {I : Wd → Prop} (hI : I s)
 (hA : ∀ s', Stp kind d.iss an s s' → I s') (hF : ∀ (s1 s2 : Wd) (i : Nat) (d1 : Dl), WC n s1 → I s1 → Fir s1 i d1 s2 → I s2)
 (K : ∀ (now' x e : Int) (s' : Wd), now ≤ now' → now' ≤ 255 * (n + 1 : Nat) → WC (n + 1) s' → zfd s'.Lg ≤ now' → (∀ t ∈ s'.T, now' < t.1) → I s' → Q (.t [.i now', .i x, .i e]) (W6 C s')) :
 PRun Tryz.prog 14 (W5 C s) [.a [.r 0 0, .r 1 0, .r 2 0, .r 3 0, .r 4 0], .i now, aV kind id an into d] Q := by
 have hpl := hW.plen; have hbl := hW.blen; have hnx := hW.nx; have hdl := hW.dlen; have hTl := hW.Tlen
 have hok := fun (i : Nat) (d : Dl) (h : s.ds[i]? = some d) => (hW.dok i d h).2
 have same : ∀ x e : Int, Q (.t [.i now, .i x, .i e]) (W6 C s) := fun x e => K now x e s (z2v _) (by omega) (hW.up (Nat.le_succ n)) hl hd hI
 refine S14 (cEq (fun k1 => ?_) fun k1 => cEq (fun k2 => ?_) fun k2 => cEq (fun k3 => ?_) fun k3 => ?_)
 · refine issue_S (d := d) hW.pinv (by omega) hW.binv (by omega) (by omega) (by omega) (by omega) (by omega) (by omega) (fun e _ => ?_) fun p' b' F => ?_
   · rw [zve]; exact same 0 e
   · rw [zve]
     have ho := zcc F.drw.ok
     have hla : 1 ≤ d.lasts := ho.lasts.1
     have hg8 : d.gives.length ≤ 8 := zjm ho.gives
     refine K now _ 0 ⟨p', b', (now + d.lasts, s.next, 2 * ((s.ds.length : Int) + 1) + 1) :: s.T, s.next + 1, s.Lg, s.ds ++ [zpz d s.ds.length now]⟩ (z2v _) (by omega)
      (WC.add hW F.drw.ok rfl rfl F.drw.room F.pinv (by have := F.plen; omega) F.binv (by have := F.blen; omega)) hl (fun t ht => ?_) (hA _ (.iss k1 rfl F))
     rcases z2e.1 ht with rfl | ht
     · simp only; omega
     · exact hd t ht
 · refine accept_S hW.pinv (by omega) hW.binv (by omega) (by omega) hW.sh hok hW.ids (by omega) (by omega) (fun e _ => ?_) (fun i d1 p' T' next' hg hid F hk hp hpi hpn hT => ?_) fun i d1 b1 b2 p' T' hg hid F hk htk hb1 e2 hb2 hb3 hb3l hpay hpp hpi hpn hT => ?_
   · rw [zgg]; exact same 0 e
   · rw [zgg]
     have hopn : opn d1 = true := by unfold opn; rw [F.st]; rfl
     have etk : zco d1 now an into = { d1 with st := 2, due := now + d1.days, taker := an, into := into } := by unfold zco; rw [if_neg (by omega)]
     have hdays : 1 ≤ d1.days := by
      rcases (zcc F.ok).kind with hh | hh
      · omega
      · omega
     have edue : (zco d1 now an into).due = now + d1.days := by rw [etk]
     rw [← edue] at hT
     obtain ⟨hw2, t, T1, hpm, hT1⟩ := WC.move hW hg hopn (dTak_ok F) (by rw [etk]) (by rw [etk]; rfl) hT hpi (by omega)
     refine K now _ 0 ⟨p', s.b, T', next', s.Lg, s.ds.set i (zco d1 now an into)⟩ (z2v _) (by omega) hw2 hl (fun x hx => ?_) (hA _ (by rw [hp]; exact .tak1 k2 hg F hk))
     simp only at hx
     rw [hT1] at hx
     rcases z2e.1 hx with rfl | hx
     · simp only [edue]; omega
     · exact hd x (hpm.mem_iff.1 (z2j _ hx))
   · rw [zgg]
     have hopn : opn d1 = true := by unfold opn; rw [F.st]; rfl
     have etk : zco d1 now an into = { d1 with st := 3, due := 0, taker := an, into := into } := by unfold zco; rw [if_pos hk]
     have hTt := hW.timF hg hopn hT
     have hw8 : d1.wants.length ≤ 8 := (dOk_sh F.ok).2
     obtain ⟨ea, hw2⟩ := WC.over hW (Nat.le_succ n) (d' := zco d1 now an into) (a := now) hg hopn (dTak_ok F) (by rw [etk]) (by rw [etk]; rfl) (by rw [etk]; exact ⟨show (3 : Int) ≤ 3 by decide, show (3 : Int) ≤ 7 by decide⟩) ⟨F.t0, F.t1⟩ hl hTt hpi (by omega) hb3 (by omega)
     have e3 : (zco d1 now an into).st = 3 := by rw [etk]
     rw [e3] at ea hw2
     rw [ea]
     subst e2
     obtain ⟨t, hpm, -⟩ := hTt
     refine K now _ 0 _ (z2v _) (by omega) hw2 (by simp only; rw [zif]; exact z2v _) (fun x hx => hd x (hpm.mem_iff.1 (z2j _ hx))) (hA _ (.tak2 k2 hg F hk htk hb1 hb2 hpay hpp))
 · refine close_S hW.pinv (by omega) hW.binv (by omega) (by omega) hW.sh hok hW.ids (by omega) (fun e _ _ => ?_) fun i d1 p' b' T' hg hid F => ?_
   · rw [zgg]; exact same 0 e
   · rw [zgg]
     have hop := zpb F.may
     have hTt := hW.timF hg hop.1 F.tim
     have hm := zhs F.may
     obtain ⟨ea, hw2⟩ := WC.over hW (Nat.le_succ n) (d' := zt5 d1 an) (a := now) hg hop.1 (dEnd_ok F.ok F.may) rfl hop.2 (by show 3 ≤ an ∧ an ≤ 7; omega) ⟨F.t0, F.t1⟩ hl hTt F.pinv (by have := F.plen; omega) F.binv (by have := F.blen; omega)
     have e3 : (zt5 d1 an).st = an := rfl
     rw [e3] at ea hw2
     rw [ea]
     obtain ⟨t, hpm, -⟩ := hTt
     refine K now _ 0 _ (z2v _) (by omega) hw2 (by simp only; rw [zif]; exact z2v _) (fun x hx => hd x (hpm.mem_iff.1 (z2j _ hx))) (hA _ (by rw [F.bins]; exact .clo k3 hg F.ok F.may F.pay))
 · refine later_S fun z hz0 hz1 => ?_
   rw [zax]
   have wn : z13 .i64 (now + z) = now + z := w64 (by omega) (by omega)
   rw [wn]
   refine ⟨fun k a1 a2 a3 a4 a5 a6 a7 a8 r1 r2 x8 r3 t X1 X2 => ∃ (j : Nat) (s1 : Wd) (lo : Int), k = (j : Int) ∧ C.c0 = a1 ∧ C.c1 = a2 ∧ C.c2 = a3 ∧ C.c3 = a4 ∧ C.c4 = a5 ∧ 200 = a6 ∧ 1 = a7 ∧ 500 = a8 ∧ s1.ds.map zda = r1 ∧ s1.p.map eT = r2 ∧ 562 = x8 ∧ s1.b.map eT = r3 ∧ zgb s1.b = t ∧ Ob.of (qS s1.T 256 s1.next) = X1 ∧ Ob.of (zfw s1.Lg) = X2 ∧ WC n s1 ∧ TI lo s1 ∧ now ≤ lo ∧ lo ≤ now + z ∧ I s1 ∧ j + s1.T.length ≤ 64,
    fun k _ _ _ _ _ _ _ _ _ _ _ _ _ _ _ => (256 - k).toNat, ⟨0, s, now, rfl, rfl, rfl, rfl, rfl, rfl, rfl, rfl, rfl, rfl, rfl, rfl, rfl, rfl, rfl, rfl, hW, ⟨hl, fun t ht => by have := hd t ht; omega⟩, z2v _, by omega, hI, by omega⟩, ?_⟩
   rintro _ _ _ _ _ _ _ _ _ _ _ _ _ _ _ _ ⟨j, s1, lo, rfl, rfl, rfl, rfl, rfl, rfl, rfl, rfl, rfl, rfl, rfl, rfl, rfl, rfl, rfl, rfl, hW1, hT1, hlo, hlo2, hI1, hj⟩
   refine cIf (fun _ => ?_) fun h => by omega
   refine pop_S (fun hno => ?_) fun t T' hpm htn hmin => ?_
   · rw [show (V.a [.i 0, .i 0, .i 0]) = tV (0, 0, 0) from rfl, zqt]
     exact K (now + z) 0 0 s1 (by omega) (by omega) (hW1.up (Nat.le_succ n)) (by have := hT1.last; omega) hno hI1
   · rw [zqt]
     refine ⟨by decide, ?_⟩
     have htm : t ∈ s1.T := hpm.mem_iff.1 z2p
     obtain ⟨d1, hd1, ho1, hdp⟩ := opens_mem.1 (hW1.tim.mem_iff.1 (z20.2 ⟨t, htm, rfl⟩))
     obtain ⟨i1, hi1⟩ := z3t.1 hd1
     have hid1 := (hW1.dok i1 d1 hi1)
     have e1 : t.1 = d1.due := (congrArg Prod.fst hdp).symm
     have e2 : t.2.2 = 2 * d1.id + 1 := (congrArg Prod.snd hdp).symm
     have hlt1 := (z2a.1 hi1).1
     have hdl1 := hW1.dlen
     have etd : z13 .i64 (Int.tdiv t.2.2 2) = d1.id := by
      rw [e2, z6c (by omega), show (2 * d1.id + 1) / 2 = d1.id by omega, w64 (by omega) (by omega)]
     rw [etd]
     have hpl1 := hW1.plen; have hbl1 := hW1.blen
     have hl2 := hpm.length_eq
     simp only [z2o] at hl2
     have hmay := z1f ho1
     have hlot := hT1.due t htm
     have hop := zpb hmay.1
     refine fire_S (T := T') hW1.pinv (by omega) hW1.binv (by omega) (by omega) hW1.sh (fun i d h => (hW1.dok i d h).2) (zop hW1.ids hpm) (by omega) (fun e _ hbad => ?_) fun i d2 p' b' T2 hg hid hst F => ?_
     · have := hbad i1 d1 hi1 hid1.2 (by omega) (by omega) hid1.1
       unfold opn at ho1
       simp only [z34, beq_iff_eq] at ho1
       omega
     · have hii : i = i1 := by have := hid1.2; omega
       subst hii
       rw [hi1] at hg
       cases hg
       rw [zgg]
       have hnone : ∀ x ∈ T', x.2.2 ≠ 2 * d1.id + 1 := fun x hx => by
        have h2 := (z3l.1 ((hpm.pairwise_iff (fun {a b} hab => Ne.symm hab)).2 hW1.whats)).1 x hx
        rw [e2] at h2
        exact fun h => h2 h.symm
       have hT2 : T2 = T' := by
        rcases F.tim with ⟨x, h1, h2⟩ | ⟨-, h2⟩
        · exact absurd h2 (hnone x (h1.mem_iff.1 z2p))
        · exact h2
       subst hT2
       obtain ⟨ea, hw2⟩ := WC.over hW1 (z2r n) (d' := zt5 d1 (zdk d1)) (a := t.1) hi1 ho1 (dEnd_ok hid1.1 hmay.1) rfl hop.2 hmay.2 ⟨by omega, by omega⟩ (by have := hT1.last; omega) ⟨t, hpm, by rw [← hdp]⟩ F.pinv (by have := F.plen; omega) F.binv (by have := F.blen; omega)
       have e3 : (zt5 d1 (zdk d1)).st = zdk d1 := rfl
       rw [e3] at ea hw2
       rw [ea]
       have ej : z13 .i64 ((j : Int) + 1) = ((j + 1 : Nat) : Int) := by rw [w64 (by omega) (by omega)]; omega
       rw [ej]
       refine ⟨⟨j + 1, ⟨p', b', T2, s1.next, s1.Lg ++ [(t.1, 2, d1.id, zdk d1)], s1.ds.set i (zt5 d1 (zdk d1))⟩, t.1, by first | trivial | rfl, by first | trivial | rfl, by first | trivial | rfl, by first | trivial | rfl, by first | trivial | rfl, by first | trivial | rfl, by first | trivial | rfl, by first | trivial | rfl, by first | trivial | rfl, by first | trivial | rfl, by first | trivial | rfl, by first | trivial | rfl, by first | trivial | rfl, by first | trivial | rfl, by first | trivial | rfl, by first | trivial | rfl, hw2, ⟨by simp only; rw [zif]; exact z2v _, fun x hx => ?_⟩, by omega, htn, hF s1 _ i d1 hW1 hI1 ⟨hi1, hid1.1, ho1, hmay.1, F.pay, F.bins, by rw [e1], rfl⟩, by simp only; omega⟩, ?_⟩
       · have := hmin x (hpm.mem_iff.1 (z2j _ hx))
         unfold leT at this
         omega
       · dsimp only; omega
end
section
set_option maxRecDepth 1000000
variable {Q : V → Mem → Prop}
structure Ac where
 kind : Int
 id : Int
 an : Int
 into : Int
 d : Dl
abbrev eA (a : Ac) : List U := [.n a.kind, .n a.id, .n a.an, .n a.into, .n a.d.id, .n a.d.kind, .n a.d.iss, .n a.d.div, .n a.d.bye, .n a.d.to, .n a.d.place, .n a.d.dest, .n a.d.pay, .n a.d.pledge, .n a.d.lasts, .n a.d.days, .n a.d.fee, .l 2 (a.d.gives.map eS), .l 2 (a.d.wants.map eS), .n a.d.st, .n a.d.due, .n a.d.taker, .n a.d.into]
theorem few_S {L : List Ac} {most : Int} (hm : 0 ≤ most ∧ most ≤ 1000) (K : ∀ b : Bool, (b = true → (L.length : Int) ≤ most ∧ ∀ a ∈ L, a.d.gives.length ≤ 12 ∧ a.d.wants.length ≤ 12) → Q (.u (.b b)) []) : PRun Tryz.prog 16 [] [.l 23 (L.map eA), .i most] Q := by
 have hlen : ((L.map eA).length : Int) = (L.length : Int) := by rw [z2d]
 refine S16 ⟨fun x => ∃ k : Nat, x = (k : Int) ∧ (k : Int) ≤ most ∧ ∀ (j : Nat) (a : Ac), j < k → L[j]? = some a → a.d.gives.length ≤ 12 ∧ a.d.wants.length ≤ 12, fun x => (most - x).toNat, ⟨0, rfl, hm.1, fun j a h => by omega⟩, ?_⟩
 rintro _ ⟨k, rfl, hk, hall⟩
 rw [hlen]
 have fin : ((L.length : Int) ≤ most → ∀ a ∈ L, a.d.gives.length ≤ 12 ∧ a.d.wants.length ≤ 12) → Q (.u (.b (decide ((L.length : Int) ≤ most)))) [] := fun h => K _ fun hb => ⟨by simpa using hb, h (by simpa using hb)⟩
 refine cIf (fun h1 => cIf (fun h2 => ?_) fun h2 => fin fun h3 a ha => ?_) fun h1 => fin fun h3 a ha => ?_
 · have hlt : k < L.length := by omega
   have hg := z2c hlt
   have el : ∀ {F : List U → Prop}, elL (L.map eA) (k : Int) F = F (eA L[k]) := fun {F} => zav (by omega) (by rw [z27, z2i, hg]; rfl)
   simp only [el, eA, ug0, ugs, dL_l, z2d]
   refine cIf (fun h3 => K false fun h => by cases h) fun h3 => cIf (fun h4 => K false fun h => by cases h) fun h4 => ?_
   have ek : z13 .i64 ((k : Int) + 1) = ((k + 1 : Nat) : Int) := by rw [w64 (by omega) (by omega)]; omega
   rw [ek]
   refine ⟨⟨k + 1, rfl, by omega, fun j a hj ha => ?_⟩, by omega⟩
   by_cases e : j = k
   · subst e
     rw [hg] at ha
     cases ha
     omega
   · exact hall j a (by omega) ha
 · obtain ⟨j, hj⟩ := z3t.1 ha
   have := (z2a.1 hj).1
   exact hall j a (by omega) hj
 · obtain ⟨j, hj⟩ := z3t.1 ha
   have := (z2a.1 hj).1
   exact hall j a (by omega) hj
theorem own_S {L : List Ac} (hl : L.length ≤ 1000) (K : ∀ b : Bool, (b = true → ∀ a ∈ L, a.d.iss < 1048576 ∧ (a.kind = 2 → a.an < 1048576)) → Q (.u (.b b)) []) : PRun Tryz.prog 29 [] [.l 23 (L.map eA)] Q := by
 refine S29 ⟨fun x => SufI L (fun r => (∀ a ∈ r, a.d.iss < 1048576 ∧ (a.kind = 2 → a.an < 1048576)) → ∀ a ∈ L, a.d.iss < 1048576 ∧ (a.kind = 2 → a.an < 1048576)) x, fun x => zmv L x, .zero (by omega) fun h => h, ?_⟩
 rintro x ⟨r, s, hr⟩
 cases r with
 | nil =>
   rw [s.d0, cond_false]
   exact K true fun _ => hr fun a ha => by simp at ha
 | cons q r =>
   simp only [s.d1, s.el, eA, ug0, ugs, zcs, cond_true]
   refine cIf (fun _ => K false fun h => by cases h) fun h1 => cEq (fun h2 => cIf (fun _ => K false fun h => by cases h) fun h3 => s.step fun h => hr fun a ha => ?_) fun h2 => s.step fun h => hr fun a ha => ?_
   · rcases z2e.1 ha with rfl | ha
     · exact ⟨by omega, fun _ => by omega⟩
     · exact h a ha
   · rcases z2e.1 ha with rfl | ha
     · exact ⟨by omega, fun e => absurd e h2⟩
     · exact h a ha
theorem over_S {d : Dl} (k : Q (.u (.b (!opn d))) []) : PRun Tryz.prog 19 [] [dV d] Q := by
 refine S19 (cNe (fun h => ?_) fun h => ?_)
 · have : (!opn d) = (d.st != 2) := by
    have h' : (d.st == 1) = false := by simpa using h
    unfold opn; rw [h', Bool.false_or]; rfl
   rw [this] at k; exact k
 · have : (!opn d) = false := by unfold opn; simp [h]
   rw [this] at k; exact k
theorem same8_S {L : List Stk} (hl : L.length ≤ 1000) (k : Q (.u (.b true)) []) : PRun Tryz.prog 64 [] [.l 2 (L.map eS), .l 2 (L.map eS)] Q := by
 refine S64 (cNe (fun h => absurd rfl h) fun _ => ⟨fun x => SufI L (fun _ => True) x, fun x => zmv L x, .zero (by omega) trivial, ?_⟩)
 rintro x ⟨r, s, -⟩
 cases r with
 | nil => rw [s.d0, cond_false]; exact k
 | cons q r =>
   simp only [s.d1, s.el, eS, ug0, ugs, zcs, cond_true, beq_self_eq_true, Bool.and_self, z3s, cond_false]
   exact s.step trivial
end
section
set_option maxRecDepth 100000
variable {Q : V → Mem → Prop}
abbrev eF2 (r : K4 × Int) : List U := [.n r.1.a, .n r.2]
theorem find_S {p : Tb} {o : Int} (hl : p.length ≤ 900000) (k1 : ∀ (i : Nat) (r : K4 × Int), p[i]? = some r → r.1.a = o → Q (.i (i : Int)) []) (k2 : (∀ r ∈ p, r.1.a ≠ o) → Q (.i (-1)) []) : PRun Tryz.prog 178 [] [.l 2 (p.map eF2), .i o] Q := by
 have hlen : ((p.map eF2).length : Int) = (p.length : Int) := by rw [z2d]
 refine S178 ⟨fun x => ∃ k : Nat, x = (k : Int) ∧ ∀ (j : Nat) (r : K4 × Int), j < k → p[j]? = some r → r.1.a ≠ o, fun x => (p.length - x).toNat, ⟨0, rfl, fun j r h => by omega⟩, ?_⟩
 rintro _ ⟨k, rfl, hk⟩
 rw [hlen]
 refine cIf (fun h1 => ?_) fun h1 => k2 fun r hr => ?_
 · have hlt : k < p.length := by omega
   have hg := z2c hlt
   rw [zav (r := eF2 p[k]) (by omega) (by rw [z27, z2i, hg]; rfl)]
   simp only [eF2, ug0, zcs]
   refine cEq (fun h => k1 k _ hg h) fun h => ?_
   have ek : z13 .i64 ((k : Int) + 1) = ((k + 1 : Nat) : Int) := by rw [w64 (by omega) (by omega)]; omega
   rw [ek]
   refine ⟨⟨k + 1, rfl, fun j r hj hr => ?_⟩, by omega⟩
   by_cases e : j = k
   · subst e
     rw [hg] at hr
     cases hr
     exact h
   · exact hk j r (by omega) hr
 · obtain ⟨j, hj⟩ := z3t.1 hr
   have := (z2a.1 hj).1
   exact hk j r (by omega) hj
theorem z0v {p : Tb} {n o : Int} (hp : PInv p n) (hl : p.length ≤ 900000) (K : ∀ e, Q (.t [.i (zag (oK o) p), .i e]) []) : PRun Tryz.prog 136 [] [.l 2 (p.map eF2), .i o] Q := by
 refine S136 (find_S hl (fun i r hr ho => ?_) fun hno => ?_)
 · rw [zax]
   refine cIf (fun h => by omega) fun _ => ?_
   rw [zav (r := eF2 r) (by omega) (by rw [z27, z2i, hr]; rfl)]
   simp only [eF2, ug0, ugs, zcs]
   have hm := z2y hr
   have hk := (hp.key r hm).1
   rw [ho] at hk
   have hv : zag (oK o) p = r.2 := by
    unfold zag
    rw [zed hp.srt (k := oK o) (v := r.2) (by rw [← hk]; exact hm)]
    rfl
   rw [← hv]
   exact K 0
 · rw [zax]
   refine cIf (fun _ => ?_) fun h => absurd (by decide) h
   have hv : zag (oK o) p = 0 := by
    unfold zag
    cases hg : zaq (oK o) p with
    | none => rfl
    | some v => exact absurd rfl (hno _ (zdd hg))
   have := K 3
   rw [hv] at this
   exact this
theorem zqu {id : Int} (h : 1 ≤ id ∧ id < 1048576) (k : Q (.t [.i (vO id), .i 0]) []) : PRun Tryz.prog 135 [] [.i 2, .i id] Q := by
 refine S135 (cIf (fun h1 => by omega) fun _ => cIf (fun h1 => by omega) fun _ => ?_)
 refine cEq (fun h => absurd h (by decide)) fun _ => cEq (fun _ => ?_) fun h => absurd rfl h
 rw [w64 (by omega) (by omega)]
 exact k
theorem z0u {p : Tb} {n id : Int} (hp : PInv p n) (hl : p.length ≤ 900000) (h : 1 ≤ id ∧ id < 1048576) (K : Q (.i (zag (oK (vO id)) p)) []) : PRun Tryz.prog 80 [] [.l 2 (p.map eF2), .i id] Q := by
 refine S80 (zqu h ?_)
 rw [zbk]
 refine cNe (fun h => absurd rfl h) fun _ => z0v hp hl fun e => ?_
 rw [zbk]
 exact K
theorem qty11_S {b : Tb} {k : K4} (hb : BInv b) (hl : b.length ≤ 900000) (K : Q (.i (zag k b)) []) : PRun Tryz.prog 179 [] [.l 5 (b.map eT), .a [.i k.a, .i k.b, .i k.c, .i k.d]] Q := by
 have hlen : ((b.map eT).length : Int) = (b.length : Int) := by rw [z2d]
 refine S179 ⟨fun x => ∃ j : Nat, x = (j : Int) ∧ ∀ (i : Nat) (r : K4 × Int), i < j → b[i]? = some r → r.1 ≠ k, fun x => (b.length - x).toNat, ⟨0, rfl, fun j r h => by omega⟩, ?_⟩
 rintro _ ⟨j, rfl, hj⟩
 rw [hlen]
 refine cIf (fun h1 => ?_) fun h1 => ?_
 · have hlt : j < b.length := by omega
   have hg := z2c hlt
   have el : ∀ {F : List U → Prop}, elL (b.map eT) (j : Int) F = F (eT b[j]) := fun {F} => zav (by omega) (by rw [z27, z2i, hg]; rfl)
   simp only [el, eT, ug0, ugs, zcs]
   by_cases e : b[j].1 = k
   · have : (b[j].1.a == k.a && (b[j].1.b == k.b && (b[j].1.c == k.c && (b[j].1.d == k.d && true)))) = true := by rw [e]; simp
     rw [this, cond_true]
     have hv : zag k b = b[j].2 := by
      unfold zag
      rw [zed hb.srt (k := k) (v := b[j].2) (by rw [← e]; exact z4y hlt)]
      rfl
     rw [← hv]
     exact K
   · have : (b[j].1.a == k.a && (b[j].1.b == k.b && (b[j].1.c == k.c && (b[j].1.d == k.d && true)))) = false := by
      rw [z6h]
      intro hh
      simp only [z17, beq_iff_eq] at hh
      exact e (K4.ext' hh.1 hh.2.1 hh.2.2.1 hh.2.2.2.1)
     rw [this, cond_false]
     have ek : z13 .i64 ((j : Int) + 1) = ((j + 1 : Nat) : Int) := by rw [w64 (by omega) (by omega)]; omega
     rw [ek]
     refine ⟨⟨j + 1, rfl, fun i r hi hr => ?_⟩, by omega⟩
     by_cases e2 : i = j
     · subst e2
       rw [hg] at hr
       cases hr
       exact e
     · exact hj i r (by omega) hr
 · have hv : zag k b = 0 := by
    unfold zag
    cases hg : zaq k b with
    | none => rfl
    | some v =>
      obtain ⟨i, hi⟩ := z3t.1 (zdd hg)
      have := (z2a.1 hi).1
      exact absurd rfl (hj i _ (by omega) hi)
   rw [hv] at K
   exact K
def ofU (x : K4) (b : Tb) : Nat → List Stk
 | 0 => []
 | n + 1 => ofU x b n ++ if 0 < zag (bin x ((n : Int) + 1)) b then [((n : Int) + 1, zag (bin x ((n : Int) + 1)) b)] else []
theorem z0l (x : K4) (b : Tb) : ∀ n, (ofU x b n).length ≤ n
 | 0 => z2r _
 | n + 1 => by
   have := z0l x b n
   simp only [ofU, z2z]
   split <;> simp <;> omega
theorem of11_S {b : Tb} {x : K4} (hb : BInv b) (hl : b.length ≤ 900000) (K : Q (.l 2 ((ofU x b 32).map eS)) []) : PRun Tryz.prog 137 [] [.l 5 (b.map eT), .a [.i x.a, .i x.b, .i x.c, .i x.d]] Q := by
 refine S137 ⟨fun o k => ∃ n : Nat, k = (n : Int) + 1 ∧ n ≤ 32 ∧ o = (ofU x b n).map eS, fun _ k => (33 - k).toNat, ⟨0, rfl, by omega, rfl⟩, ?_⟩
 rintro _ _ ⟨n, rfl, hn, rfl⟩
 refine cIf (fun h1 => ?_) fun h1 => ?_
 · refine S180 ?_
   show PRun _ _ _ _ _
   refine qty11_S (k := bin x ((n : Int) + 1)) hb hl ?_
   rw [zax]
   have ek : z13 .i64 ((n : Int) + 1 + 1) = ((n + 1 : Nat) : Int) + 1 := by rw [w64 (by omega) (by omega)]; omega
   rw [ek]
   have hlen := z0l x b n
   refine cIf (fun h2 => ⟨?_, ⟨n + 1, rfl, by omega, ?_⟩, by dsimp only; omega⟩) fun h2 => ⟨⟨n + 1, rfl, by omega, ?_⟩, by dsimp only; omega⟩
   · unfold zbo; simp; omega
   · simp only [ofU]
     rw [if_pos h2, z28]; rfl
   · simp only [ofU]
     rw [if_neg h2, z3a]
 · have : n = 32 := by omega
   subst this
   exact K
theorem ofU_eq {x : K4} {b : Tb} {L : List Stk} (hc : L = [] ∨ zhv L 32 = 0) (hv : ∀ t, zag (bin x t) b = zee t L) : ofU x b 32 = L := by
 have hs : L.Pairwise fun a b => a.1 < b.1 := by
  rcases hc with rfl | hc
  · exact .nil
  · exact zfk hc
 have hm : ∀ s ∈ L, 1 ≤ s.1 ∧ s.1 ≤ 32 ∧ 1 ≤ s.2 := by
  rcases hc with rfl | hc
  · intro s hs; simp at hs
  · intro s hs
    have := zhu hc s hs
    omega
 have one : ∀ (M : List Stk) (t : Int), (M.Pairwise fun a b => a.1 < b.1) → (∀ s ∈ M, 1 ≤ s.2) → (M.filter fun s => s.1 == t) = if 0 < zee t M then [(t, zee t M)] else [] := by
  intro M t
  induction M with
  | nil => intro _ _; rfl
  | cons a M ih =>
    intro hp hq
    have hp2 := z3l.1 hp
    have ih := ih hp2.2 fun s hs => hq s (z2j _ hs)
    have ha := hq a z2p
    by_cases e : a.1 = t
    · have es : zee t (a :: M) = a.2 + zee t M := by simp only [zee]; rw [if_pos e]
      rw [z3m (by simpa using e), es]
      have h0 : (M.filter fun s => s.1 == t) = [] := z5i.2 fun s hs => by
       have := hp2.1 s hs
       simp only [beq_iff_eq]
       omega
      rw [h0] at ih
      have hz : ¬ 0 < zee t M := fun h => by rw [if_pos h] at ih; cases ih
      have hnn := zjz (d := t) (L := M) fun s hs => by have := hq s (z2j _ hs); omega
      rw [h0, if_pos (by omega), show a.2 + zee t M = a.2 by omega, ← e]
    · have es : zee t (a :: M) = zee t M := by simp only [zee]; rw [if_neg e, z5j]
      rw [z3q (by simpa using e), es]
      exact ih
 have key : ∀ n : Nat, ofU x b n = L.filter fun s => decide (s.1 ≤ (n : Int)) := by
  intro n
  induction n with
  | zero =>
    symm
    refine z5i.2 fun s hs => ?_
    have := hm s hs
    simp only [decide_eq_true_eq]
    omega
  | succ n ih =>
    simp only [ofU]
    rw [ih, hv, ← one L ((n : Int) + 1) hs fun s hs => (hm s hs).2.2]
    clear ih hc hv hm one
    induction L with
    | nil => rfl
    | cons a M ihM =>
      have hp2 := z3l.1 hs
      have ihM := ihM hp2.2
      by_cases h1 : a.1 ≤ (n : Int)
      · rw [z3m (by simpa using h1), z3q (p := fun s : Stk => s.1 == (n : Int) + 1) (by simp; omega), z3m (p := fun s : Stk => decide (s.1 ≤ ((n + 1 : Nat) : Int))) (by simp; omega), z3r, ihM]
      · have h0 : (M.filter fun s => decide (s.1 ≤ (n : Int))) = [] := z5i.2 fun s hs => by
         have := hp2.1 s hs
         simp only [decide_eq_true_eq]
         omega
        rw [h0, z3f] at ihM
        rw [z3q (by simpa using h1), h0, z3f]
        by_cases h2 : a.1 = (n : Int) + 1
        · rw [z3m (p := fun s : Stk => s.1 == (n : Int) + 1) (by simpa using h2), z3m (p := fun s : Stk => decide (s.1 ≤ ((n + 1 : Nat) : Int))) (by simp; omega), ihM]
        · rw [z3q (p := fun s : Stk => s.1 == (n : Int) + 1) (by simpa using h2), z3q (p := fun s : Stk => decide (s.1 ≤ ((n + 1 : Nat) : Int))) (by simp; omega), ihM]
 rw [key]
 exact List.filter_eq_self.2 fun s hs => by
  have := hm s hs
  simp only [decide_eq_true_eq]
  omega
theorem held_S {b : Tb} {id pl : Int} {L : List Stk} (hb : BInv b) (hl : b.length ≤ 900000) (h : 1 ≤ id ∧ id < 1048576) (hc : L = [] ∨ zhv L 32 = 0) (hv : ∀ t, zag (bin (vK id pl) t) b = zee t L) (K : Q (.l 2 (L.map eS)) []) : PRun Tryz.prog 81 [] [.l 5 (b.map eT), .i 2, .i id, .i pl] Q := by
 refine S81 (zqu h ?_)
 rw [zbk]
 refine cNe (fun h => absurd rfl h) fun _ => S138 ?_
 show PRun _ _ _ _ _
 refine of11_S (x := vK id pl) hb hl ?_
 rw [ofU_eq hc hv, znd]
 exact K
end
section
variable {P : Program} {D D' : Fz} {ρ ρ' : List Loc} {m m' : Mem} {chs C : List zab} {h h' : zac} {ro hr : List Nat}
def spBeg : SP Tryz.prog where
 f ro _ g args m K := cond (z14 g 7) (match args with
   | [.u (.i .i64 w)] => some (K (zcf (fK [] m.length) R5) (zuc m [] (M5 (cW w) p0 562 b0 (Ob.of (qS [] 256 1)) (Ob.of (zfw [])) [])))
   | _ => some False) none
 ok := by
  intro ro hr X call hX hcall g args m KS p hs hp D ρ chs C h vs xx M ha
  cases hg : z14 g 7 with
  | false => rw [hg] at hs; cases hs
  | true =>
    rw [hg] at hs
    have := z18 hg
    subst this
    simp only [cond_true] at hs
    split at hs
    · rename_i w
      cases hs
      exact zig (X := X) ⟨[], R5, M5 (cW w) p0 562 b0 (Ob.of (qS [] 256 1)) (Ob.of (zfw [])) [], by simp, fun b hb => by simp at hb, fun b hb => by simp at hb, fun b hb => by simp [zam, zae] at hb, begun_S w, hp⟩ M ha
    · cases hs; exact hp.elim
end
section
set_option maxRecDepth 100000
end
section
set_option maxRecDepth 1000000
variable {Q : V → Mem → Prop}
theorem post_L6 {C : Ct} {p : Tb} {pn : Int} {b : Tb} {G L : Ob} {ds : List Dl} {r : List (List U)} {F : List (List U) → FM} : post [.L 19] patM F (.l 19 r) (M6 C p pn b G L ds) = F r C.c0 C.c1 C.c2 C.c3 C.c4 200 1 500 (ds.map zda) (p.map eT) pn (b.map eT) (zgb b) G L := rfl
theorem post_ofA {F : Int → Int → Int → Int → Bool → Ob → Prop} {x : Mk} {c : Bool} {X : Ob} : post [.agg [.i .i64, .i .i64, .i .i64, .i .i64], .B] [.A] F (.t [mV x, .u (.b c)]) [.o X] = F x.1 x.2.1 x.2.2.1 x.2.2.2 c X := rfl
abbrev s0 : Wd := ⟨p0, b0, [], 1, [], []⟩
theorem srt_of {l : Tb} (h : (l.map fun r => (r.1.a, r.1.b, r.1.c, r.1.d)).Pairwise (fun x y => x.1 < y.1 ∨ (x.1 = y.1 ∧ (x.2.1 < y.2.1 ∨ (x.2.1 = y.2.1 ∧ (x.2.2.1 < y.2.2.1 ∨ (x.2.2.1 = y.2.2.1 ∧ x.2.2.2 < y.2.2.2))))))) : Srt l := by
 rw [z6g] at h
 exact h
theorem p0_inv : PInv p0 562 where
 srt := srt_of (by decide)
 key := by decide
 sum := by decide
 top := by decide
theorem b0_inv : BInv b0 where
 srt := srt_of (by decide)
 key := by decide
 top d := by
  unfold tyQ b0
  simp only [zga]
  repeat' split
  all_goals omega
theorem s0_W : WC 0 s0 where
 pinv := p0_inv
 plen := by decide
 binv := b0_inv
 blen := by decide
 nx := by decide
 ids := .nil
 lt t ht := by simp at ht
 dok i d h := by simp at h
 dlen := by decide
 tim := .refl _
 mlen := rfl
 mark i d h := by simp at h
 mid m h := by simp at h
end
section
set_option maxRecDepth 100000
theorem mixTn3 : Tryz.prog.follows .mixedOrders = true := by kernel_rfl
theorem S6 {which : Int} {l : List (List U)} {Q : V → Mem → Prop} (hh : PRun Tryz.prog 16 [] [.l 23 l, .i 30] (post [.B] [] (fun b1 => (bif !b1 then PRun Tryz.prog 15 [] [] (post [.B] [] (fun b2 => (Q (.u (.b b2)) [] : Prop))) else PRun Tryz.prog 29 [] [.l 23 l] (post [.B] [] (fun b3 => (bif !b3 then PRun Tryz.prog 15 [] [] (post [.B] [] (fun b4 => (Q (.u (.b b4)) [] : Prop))) else PRun Tryz.prog 30 [.c [.l 5 (z26 eT p0), .i 562]] [.r 0 0] (post [.I] [.c [.l 5, .i .i64]] (fun x1 l1 x2 => (PRun Tryz.prog 31 [.c [.l 5 (z26 eT b0), .n .i64 33 (zgb b0)]] [.r 0 0, .i 1] (post [.I] [.c [.l 5, .n 33]] (fun x3 l2 a1 => (PRun Tryz.prog 31 [.c [.l 5 l2, .n .i64 33 a1]] [.r 0 0, .i 2] (post [.I] [.c [.l 5, .n 33]] (fun x4 l3 a2 => (PRun Tryz.prog 31 [.c [.l 5 l3, .n .i64 33 a2]] [.r 0 0, .i 3] (post [.I] [.c [.l 5, .n 33]] (fun x5 l4 a3 => (PRun Tryz.prog 31 [.c [.l 5 l4, .n .i64 33 a3]] [.r 0 0, .i 4] (post [.I] [.c [.l 5, .n 33]] (fun x6 l5 a4 => ∃ (I1 : Int → Int → Int → List (List U) → Int → List (List U) → Int → Int → Int → Int → List (List U) → List (List U) → Int → List (List U) → List Int → Ob → Ob → Prop) (f1 : Int → Int → Int → List (List U) → Int → List (List U) → Int → Int → Int → Int → List (List U) → List (List U) → Int → List (List U) → List Int → Ob → Ob → Nat), I1 0 0 (cW which).c0 (cW which).c1 (cW which).c2 (cW which).c3 (cW which).c4 200 1 500 [] l1 x2 l5 a4 (Ob.of (qS [] 256 1)) (Ob.of (zfw [])) ∧ (∀ x7 : Int, ∀ x8 : Int, ∀ x9 : Int, ∀ l6 : List (List U), ∀ x10 : Int, ∀ l7 : List (List U), ∀ x11 : Int, ∀ x12 : Int, ∀ x13 : Int, ∀ x14 : Int, ∀ l8 : List (List U), ∀ l9 : List (List U), ∀ x15 : Int, ∀ l10 : List (List U), ∀ a5 : List Int, ∀ X1 : Ob, ∀ X2 : Ob, I1 x7 x8 x9 l6 x10 l7 x11 x12 x13 x14 l8 l9 x15 l10 a5 X1 X2 → (bif decide (x8 < (z15 l : Int)) then elL l x8 (fun r1 => dI .i64 (ug r1 0) (fun x16 => dI .i64 (ug r1 1) (fun x17 => dI .i64 (ug r1 2) (fun x18 => dI .i64 (ug r1 3) (fun x19 => dI .i64 (ug r1 4) (fun x20 => dI .i64 (ug r1 5) (fun x21 => dI .i64 (ug r1 6) (fun x22 => dI .i64 (ug r1 7) (fun x23 => dI .i64 (ug r1 8) (fun x24 => dI .i64 (ug r1 9) (fun x25 => dI .i64 (ug r1 10) (fun x26 => dI .i64 (ug r1 11) (fun x27 => dI .i64 (ug r1 12) (fun x28 => dI .i64 (ug r1 13) (fun x29 => dI .i64 (ug r1 14) (fun x30 => dI .i64 (ug r1 15) (fun x31 => dI .i64 (ug r1 16) (fun x32 => dL 2 (ug r1 17) (fun l11 => dL 2 (ug r1 18) (fun l12 => dI .i64 (ug r1 19) (fun x33 => dI .i64 (ug r1 20) (fun x34 => dI .i64 (ug r1 21) (fun x35 => dI .i64 (ug r1 22) (fun x36 => PRun Tryz.prog 14 (Mx5 x9 l6 x10 l7 x11 x12 x13 x14 l9 x15 l10 a5 X1 X2 l8) [.a [.r 0 0, .r 1 0, .r 2 0, .r 3 0, .r 4 0], .i x7, .a [.i x16, .i x17, .i x18, .i x19, .i x20, .i x21, .i x22, .i x23, .i x24, .i x25, .i x26, .i x27, .i x28, .i x29, .i x30, .i x31, .i x32, .l 2 l11, .l 2 l12, .i x33, .i x34, .i x35, .i x36]] (post [.I, .I, .I] pMx (fun x37 x38 x39 x40 l13 x41 l14 x42 x43 x44 x45 l15 l16 x46 l17 a6 X3 X4 => (PRun Tryz.prog 30 [.c [.l 5 l16, .i x46]] [.r 0 0] (post [.I] [.c [.l 5, .i .i64]] (fun x47 l18 x48 => (bif x47 != x1 then Q (.u (.b false)) [] else PRun Tryz.prog 31 [.c [.l 5 l17, .n .i64 33 a6]] [.r 0 0, .i 1] (post [.I] [.c [.l 5, .n 33]] (fun x49 l19 a7 => (bif x49 != x3 then Q (.u (.b false)) [] else PRun Tryz.prog 31 [.c [.l 5 l19, .n .i64 33 a7]] [.r 0 0, .i 2] (post [.I] [.c [.l 5, .n 33]] (fun x50 l20 a8 => (bif x50 != x4 then Q (.u (.b false)) [] else PRun Tryz.prog 31 [.c [.l 5 l20, .n .i64 33 a8]] [.r 0 0, .i 3] (post [.I] [.c [.l 5, .n 33]] (fun x51 l21 a9 => (bif x51 != x5 then Q (.u (.b false)) [] else PRun Tryz.prog 31 [.c [.l 5 l21, .n .i64 33 a9]] [.r 0 0, .i 4] (post [.I] [.c [.l 5, .n 33]] (fun x52 l22 a10 => (bif x52 != x6 then Q (.u (.b false)) [] else PRun Tryz.prog 32 (Mx5 x40 l13 x41 l14 x42 x43 x44 x45 l18 x48 l22 a10 X3 X4 l15) [.a [.r 0 0, .r 1 0, .r 2 0, .r 3 0, .r 4 0]] (post [.B] pMx (fun b5 x53 l23 x54 l24 x55 x56 x57 x58 l25 l26 x59 l27 a11 X5 X6 => (bif !b5 then Q (.u (.b false)) [] else I1 x37 (z13 .i64 (x8 + 1)) x53 l23 x54 l24 x55 x56 x57 x58 l25 l26 x59 l27 a11 X5 X6 ∧ f1 x37 (z13 .i64 (x8 + 1)) x53 l23 x54 l24 x55 x56 x57 x58 l25 l26 x59 l27 a11 X5 X6 < f1 x7 x8 x9 l6 x10 l7 x11 x12 x13 x14 l8 l9 x15 l10 a5 X1 X2 : Prop))) : Prop))) : Prop))) : Prop))) : Prop))) : Prop))) : Prop))))))))))))))))))))))))))) else PRun Tryz.prog 15 [] [] (post [.B] [] (fun b6 => (Q (.u (.b b6)) [] : Prop))))))) : Prop))) : Prop))) : Prop))) : Prop))) : Prop))) : Prop)))) : PRun Tryz.prog 6 [] [.i which, .l 23 l] Q :=
 zak mixTn3 Tryz.func6 (by kernel_rfl) (H := ⟨[((6, 11, 8), ⟨[(7, .I), (11, .I)], [(0, .c [.i .i64, .l 7, .i .i64, .l 4, .i .i64, .i .i64, .i .i64, .i .i64, .r 1 0, .r 2 0, .r 3 0, .r 4 0, .ow 33 19]), (1, .c [.l 5, .i .i64]), (2, .c [.l 5, .n 33]), (3, .A), (4, .A)]⟩)], [], [], [], [], false, 64, KN.no, false, spBeg⟩) (n := 2) (by kernel_rfl) hh
end
section
set_option maxRecDepth 1000000
variable {Q : V → Mem → Prop}
def cntT (w a : Int) (l : List Tm) : Int := ((l.filter fun t => t.2.2 == w && t.1 == a).length : Int)
theorem zr3 (w a : Int) (t : Tm) (l : List Tm) : cntT w a (t :: l) = (if t.2.2 = w ∧ t.1 = a then 1 else 0) + cntT w a l := by
 unfold cntT
 by_cases h : t.2.2 = w ∧ t.1 = a
 · rw [if_pos h, z3m (by simpa using h)]
   simp only [z2o]; omega
 · rw [if_neg h, z3q (by simpa using h)]
   omega
theorem zwf {w a : Int} : ∀ {l : List Tm}, (l.Pairwise fun x y => x.2.2 ≠ y.2.2) → ∀ t ∈ l, t.2.2 = w → t.1 = a → cntT w a l = 1
 | [], _, t, ht, _, _ => by simp at ht
 | x :: l, hp, t, ht, hw, ha => by
   have hp2 := z3l.1 hp
   rw [zr3]
   rcases z2e.1 ht with rfl | ht
   · rw [if_pos ⟨hw, ha⟩]
     have : cntT w a l = 0 := by
      unfold cntT
      rw [z5i.2 fun y hy => ?_]
      · rfl
      · have := hp2.1 y hy
        simp only [z17, beq_iff_eq]
        omega
     omega
   · have := hp2.1 t ht
     rw [if_neg (by omega), zwf hp2.2 t ht hw ha]; rfl
theorem post_L5b {F : List (List U) → List (List U) → List Int → Prop} {l r : List (List U)} {a : List Int} : post [.L 5] [.c [.l 5, .n 33]] F (.l 5 l) [.c [.l 5 r, .n .i64 33 a]] = F l r a := rfl
theorem post_L2p {F : List (List U) → List (List U) → Int → Prop} {l r : List (List U)} {n : Int} : post [.L 2] [.c [.l 5, .i .i64]] F (.l 2 l) [.c [.l 5 r, .i n]] = F l r n := rfl
theorem locks_S {C : Ct} {n : Nat} {s : Wd} (hW : WC n s) (h : MI s) (hn : n ≤ 100) (K : Q (.u (.b true)) (W6 C s)) : PRun Tryz.prog 32 (W5 C s) [.a [.r 0 0, .r 1 0, .r 2 0, .r 3 0, .r 4 0]] Q := by
 have hdl := hW.dlen; have hpl := hW.plen; have hbl := hW.blen
 have hlen : ((s.ds.map zda).length : Int) = (s.ds.length : Int) := by rw [z2d]
 refine S32 (deals_S hW.sh (by omega) ?_)
 rw [post_L6]
 refine blist_B (by omega) ?_
 rw [post_L5b]
 refine plist_S (by omega) ?_
 rw [post_L2p]
 refine ztf fun ys hys => ?_
 rw [zth]
 have hyl := hys.length_eq
 have hTl := hW.Tlen
 have hopl : s.T.length = (s.ds.filter opn).length := by
  have := hW.tim.length_eq
  rw [z2d] at this
  unfold zcg at this
  rw [z2d] at this
  exact this
 refine ⟨fun c x => ∃ i : Nat, x = (i : Int) ∧ i ≤ s.ds.length ∧ c = (((s.ds.take i).filter opn).length : Int), fun _ x => (s.ds.length - x).toNat, ⟨0, rfl, z3j _, rfl⟩, ?_⟩
 rintro _ _ ⟨i, rfl, hi, rfl⟩
 rw [hlen]
 refine cIf (fun h1 => ?_) fun h1 => ?_
 · have hlt : i < s.ds.length := by omega
   have hg := z2c hlt
   generalize hd : s.ds[i] = d at hg
   have el : ∀ {F : List U → Prop}, elL (s.ds.map zda) (i : Int) F = F (zda d) := fun {F} => zav (by omega) (by rw [z27, z2i, hg]; rfl)
   simp only [el, dDx, zda, ug0, ugs, zcs, dL_l]
   have hdk := hW.dok i d hg
   have ho := zcc hdk.1
   have hid := hdk.2
   have hcf : ((s.ds.take (i + 1)).filter opn).length = ((s.ds.take i).filter opn).length + if opn d = true then 1 else 0 := by
    rw [List.take_add_one, hg, List.filter_append, z2z]
    simp only [Option.toList_some]
    split
    · rename_i hh; rw [z3m hh]; rfl
    · rename_i hh; rw [z3q hh]; rfl
   have hfl : ((s.ds.take i).filter opn).length ≤ 64 := by
    have := z44 opn (s.ds.take i)
    have := List.length_take_le i s.ds
    omega
   have ei : z13 .i64 ((i : Int) + 1) = ((i + 1 : Nat) : Int) := by rw [w64 (by omega) (by omega)]; omega
   rw [ei]
   intro k1 hk1
   have hpay := ho.pay
   have main : ∀ (c m : Int) (L : List Stk), c = (((s.ds.take (i + 1)).filter opn).length : Int) → m = zer d → (L = if opn d = true then d.gives else []) → k1 c m (L.map eS) := fun c m L hc hm hL => by
    subst hc hm
    refine hk1 _ _ _ ?_
    refine z0u hW.pinv (by omega) (by omega) ?_
    rw [zax]
    have hmon := h.mon i d hg
    rw [← hid] at hmon
    refine cNe (fun hh => absurd hmon hh) fun _ => ?_
    have hL2 : L = [] ∨ zhv L 32 = 0 := by
     rw [hL]
     split
     · exact .inr ho.gives
     · exact .inl rfl
    have hv : ∀ t, zag (bin (vK d.id d.place) t) s.b = zee t L := fun t => by
     rw [hid, h.bn i d hg t, hL]
     split <;> rfl
    refine held_S hW.binv (by omega) (by omega) hL2 hv ?_
    rw [znd]
    have hLl : L.length ≤ 1000 := by
     rcases hL2 with e | e
     · subst e; simp
     · have := zjm e; omega
    refine same8_S hLl ?_
    rw [zci]
    simp only [z3s, cond_false]
    exact ⟨⟨i + 1, rfl, by omega, by first | trivial | rfl⟩, by omega⟩
   refine over_S (d := d) ?_
   rw [zci]
   cases hop : opn d with
   | false =>
     simp only [z47, z3s, cond_false]
     refine main _ 0 [] ?_ ?_ (by rw [hop]; rfl)
     · rw [hcf, hop]; rfl
     · have h2 : ¬ d.st = 2 := fun e => by unfold opn at hop; simp [e] at hop
       have h3 : ¬ d.st = 1 := fun e => by unfold opn at hop; simp [e] at hop
       unfold zer
       rw [if_neg h2, if_neg h3]
   | true =>
     simp only [z3s, z47, cond_true]
     intro k2 hk2
     have hple : 0 ≤ d.pledge ∧ d.pledge ≤ 1152921504606846976 := by
      rcases ho.kind with hh | hh <;> omega
     have tim : ∀ m : Int, m = zer d → (∀ x32 : Int, x32 = m → True) → True := fun _ _ _ => trivial
     have st12 : d.st = 1 ∨ d.st = 2 := by
      unfold opn at hop
      simpa using hop
     have fin : ∀ m : Int, m = dPd d → k2 m := fun m hm => by
      refine hk2 m ?_
      intro k3 hk3
      have g3 : ∀ x : Int, x = zer d → k3 x := fun x hx => by
       refine hk3 x ?_
       obtain ⟨t0, ht0, htp⟩ := hW.has hg hop
       have e1 : t0.1 = d.due := congrArg Prod.fst htp
       have e2 : t0.2.2 = 2 * d.id + 1 := congrArg Prod.snd htp
       have hone : cntT (2 * d.id + 1) d.due ys = 1 := zwf ((hys.pairwise_iff (fun {a b} hab => Ne.symm hab)).2 hW.whats) t0 (hys.mem_iff.2 ht0) e2 e1
       refine ⟨fun c y => SufI ys (fun r => 0 ≤ c ∧ c + cntT (2 * d.id + 1) d.due r = 1) y, fun _ y => zmv ys y, .zero (by omega) ⟨z2v _, by rw [z5j]; exact hone⟩, ?_⟩
       rintro c y ⟨r, sf, hc0, hc⟩
       cases r with
       | nil =>
         rw [sf.d0, cond_false]
         have hc1 : c = 1 := by unfold cntT at hc; simpa using hc
         refine cNe (fun hh => absurd hc1 hh) fun _ => ?_
         have ec : z13 .i64 ((((s.ds.take i).filter opn).length : Int) + 1) = (((s.ds.take i).filter opn).length : Int) + 1 := w64 (by omega) (by omega)
         rw [ec]
         exact main _ x d.gives (by rw [hcf, if_pos hop]; omega) hx (by rw [if_pos hop])
       | cons q r =>
         simp only [sf.d1, sf.el, rT, ug0, ugs, zcs, cond_true]
         rw [zr3] at hc
         have hnn : 0 ≤ cntT (2 * d.id + 1) d.due r := by unfold cntT; omega
         refine S44 ?_
         rw [zax, w64 (x := 2 * d.id) (by omega) (by omega), w64 (x := 2 * d.id + 1) (by omega) (by omega)]
         have hc1 : c ≤ 1 := by
          split at hc <;> omega
         refine cEq (fun h5 => cEq (fun h6 => ?_) fun h6 => ?_) fun h5 => ?_
         · rw [if_pos ⟨h5, h6⟩] at hc
           rw [w64 (x := c + 1) (by omega) (by omega)]
           exact sf.step ⟨by omega, by omega⟩
         · rw [if_neg (fun hh => h6 hh.2)] at hc
           exact sf.step ⟨by omega, by omega⟩
         · rw [if_neg (fun hh => h5 hh.1)] at hc
           exact sf.step ⟨by omega, by omega⟩
      refine cEq (fun h5 => ?_) fun h5 => ?_
      · have e : z13 .i64 (d.pay + d.pledge) = d.pay + d.pledge := w64 (by omega) (by omega)
        rw [e]
        exact g3 _ (by unfold zer; rw [if_pos h5])
      · exact g3 m (by unfold zer; rw [if_neg h5, if_pos (by omega)]; exact hm)
     exact cEq (fun h5 => fin _ (by unfold dPd; rw [if_pos h5])) fun h5 => fin _ (by unfold dPd; rw [if_neg h5])
 · have : i = s.ds.length := by omega
   subst this
   rw [z4r]
   have e : ((((s.ds.filter opn).length : Nat) : Int) == ((ys.map rT).length : Int)) = true := by
    rw [z2d, hyl, hopl]; simp
   rw [e]
   exact K
end
section
set_option maxRecDepth 1000000
theorem zld {α : Type} {f : α → List U} : ∀ {rows : List (List U)}, (∀ r ∈ rows, ∃ x, r = f x) → ∃ l : List α, rows = l.map f
 | [], _ => ⟨[], rfl⟩
 | r :: rows, h => by
   obtain ⟨x, rfl⟩ := h r z2p
   obtain ⟨l, rfl⟩ := zld fun s hs => h s (z2j _ hs)
   exact ⟨x :: l, rfl⟩
theorem zuw {rows : List (List U)} (h : ∀ r ∈ rows, ShU (.i .i64 (.i .i64 .nil)) r) : ∃ l : List Stk, rows = l.map eS :=
 zld fun r hr => by
  obtain ⟨a, _, rfl, -, b, _, rfl, -, rfl⟩ := h r hr
  exact ⟨(a, b), rfl⟩
abbrev dsA : Ds := (.i .i64 (.i .i64 (.i .i64 (.i .i64 (.i .i64 (.i .i64 (.i .i64 (.i .i64 (.i .i64 (.i .i64 (.i .i64 (.i .i64 (.i .i64 (.i .i64 (.i .i64 (.i .i64 (.i .i64 (.l 2 (.i .i64 (.i .i64 .nil)) (.l 2 (.i .i64 (.i .i64 .nil)) (.i .i64 (.i .i64 (.i .i64 (.i .i64 .nil)))))))))))))))))))))))
theorem act_conv {rows : List (List U)} (h : ∀ r ∈ rows, ShU dsA r) : ∃ l : List Ac, rows = l.map eA :=
 zld fun r hr => by
  obtain ⟨kind, _, rfl, -, id, _, rfl, -, an, _, rfl, -, into, _, rfl, -, d1, _, rfl, -, d2, _, rfl, -, d3, _, rfl, -, d4, _, rfl, -, d5, _, rfl, -, d6, _, rfl, -, d7, _, rfl, -, d8, _, rfl, -, d9, _, rfl, -, d10, _, rfl, -, d11, _, rfl, -, d12, _, rfl, -, d13, _, rfl, -, g, _, rfl, -, hg, w, _, rfl, -, hw, s1, _, rfl, -, s2, _, rfl, -, s3, _, rfl, -, s4, _, rfl, -, rfl⟩ := h r hr
  obtain ⟨g', rfl⟩ := zuw hg
  obtain ⟨w', rfl⟩ := zuw hw
  exact ⟨⟨kind, id, an, into, ⟨d1, d2, d3, d4, d5, d6, d7, d8, d9, d10, d11, d12, d13, g', w', s1, s2, s3, s4⟩⟩, rfl⟩
end
section
set_option maxRecDepth 1000000
variable {Q : V → Mem → Prop}
theorem post_B6 {C : Ct} {p : Tb} {pn : Int} {b : Tb} {G L : Ob} {ds : List Dl} {F : Bool → FM} {e : Bool} : post [.B] patM F (.u (.b e)) (M6 C p pn b G L ds) = F e C.c0 C.c1 C.c2 C.c3 C.c4 200 1 500 (ds.map zda) (p.map eT) pn (b.map eT) (zgb b) G L := rfl
theorem tval_0 {k : K4} {l : Tb} (h : ∀ r ∈ l, r.1 ≠ k) : zag k l = 0 := by
 unfold zag
 cases hg : zaq k l with
 | none => rfl
 | some v => exact absurd rfl (h _ (zdd hg))
theorem s0_M : MI s0 where
 z0 := by decide
 own i d h := by simp at h
 mon i d h := by simp at h
 mz j hj := tval_0 fun r hr e => by
  have h1 : ∀ r ∈ p0, r.1.a ≤ 3 := by decide
  have h2 := h1 r hr
  rw [e] at h2
  have h3 : vO j ≤ 3 := h2
  unfold vO at h3
  have : (0 : Int) < j := hj
  omega
 bn i d h := by simp at h
 bz j hj pl t := tval_0 fun r hr e => by
  have h1 : ∀ r ∈ b0, r.1.a ≤ 3 := by decide
  have h2 := h1 r hr
  rw [e] at h2
  have h3 : vO j ≤ 3 := h2
  unfold vO at h3
  have : (0 : Int) < j := hj
  omega
 tot t := rfl
theorem zk9 (which : Int) (L : List Ac) : PRun Tryz.prog 6 [] [.i which, .l 23 (L.map eA)] fun x m => x = .u (.b true) ∧ m = [] := by
 have hlen : ((L.map eA).length : Int) = (L.length : Int) := by rw [z2d]
 have aw : PRun Tryz.prog 15 [] [] (post [.B] [] (fun b => ((fun (x : V) (m : Mem) => x = V.u (.b true) ∧ m = []) (.u (.b b)) [] : Prop))) := aw15_run.mono (by rintro _ _ ⟨rfl, rfl⟩; exact ⟨rfl, rfl⟩)
 refine S6 (few_S (by decide) fun b hb => ?_)
 rw [zci]
 cases b with
 | false => exact aw
 | true =>
 obtain ⟨hL, hall⟩ := hb rfl
 rw [z3s, cond_false]
 refine own_S (by omega) fun b hb => ?_
 rw [zci]
 cases b with
 | false => exact aw
 | true =>
 have hown := hb rfl
 rw [z3s, cond_false]
 refine zvb ?_
 rw [ze8]
 refine zex (d := 1) (fun _ _ => ?_) fun h => by omega
 rw [zbx]
 refine zex (d := 2) (fun _ _ => ?_) fun h => by omega
 rw [zbx]
 refine zex (d := 3) (fun _ _ => ?_) fun h => by omega
 rw [zbx]
 refine zex (d := 4) (fun _ _ => ?_) fun h => by omega
 rw [zbx]
 refine ⟨fun now x a1 a2 a3 a4 a5 a6 a7 a8 r1 r2 x8 r3 t X1 X2 => ∃ (k : Nat) (s : Wd), x = (k : Int) ∧ (cW which).c0 = a1 ∧ (cW which).c1 = a2 ∧ (cW which).c2 = a3 ∧ (cW which).c3 = a4 ∧ (cW which).c4 = a5 ∧ 200 = a6 ∧ 1 = a7 ∧ 500 = a8 ∧ s.ds.map zda = r1 ∧ s.p.map eT = r2 ∧ 562 = x8 ∧ s.b.map eT = r3 ∧ zgb s.b = t ∧ Ob.of (qS s.T 256 s.next) = X1 ∧ Ob.of (zfw s.Lg) = X2 ∧ k ≤ L.length ∧ WC k s ∧ 0 ≤ now ∧ now ≤ 255 * (k : Int) ∧ zfd s.Lg ≤ now ∧ (∀ t ∈ s.T, now < t.1) ∧ MI s,
  fun _ x _ _ _ _ _ _ _ _ _ _ _ _ _ _ _ => (L.length - x).toNat, ⟨0, s0, rfl, rfl, rfl, rfl, rfl, rfl, rfl, rfl, rfl, rfl, rfl, rfl, rfl, rfl, rfl, rfl, z3j _, s0_W, z2v _, by decide, by decide, (fun t ht => by simp at ht), s0_M⟩, ?_⟩
 rintro now _ _ _ _ _ _ _ _ _ _ _ _ _ _ _ _ ⟨k, s, rfl, rfl, rfl, rfl, rfl, rfl, rfl, rfl, rfl, rfl, rfl, rfl, rfl, rfl, rfl, rfl, hk, hW, ht0, ht1, hl, hd, hM⟩
 rw [hlen]
 refine cIf (fun hlt => ?_) fun _ => aw
 have hlt : k < L.length := by omega
 have hg := z2c hlt
 have el : ∀ {F : List U → Prop}, elL (L.map eA) (k : Int) F = F (eA L[k]) := fun {F} => zav (by omega) (by rw [z27, z2i, hg]; rfl)
 simp only [el, eA, ug0, ugs, zcs, dL_l]
 have hsh := hall _ (z4y hlt)
 have how := hown _ (z4y hlt)
 refine do_S (C := cW which) (s := s) (d := L[k].d) (n := k) hW (by omega) ht0 ht1 hl hd hsh.1 hsh.2 (I := MI) hM (fun s' hs => hM.step hW how.1 how.2 hs) (fun s1 s2 i d1 hW1 hI F => hI.fir hW1 F) fun now' x e s' hn hn' hW' hl' hd' hM' => ?_
 rw [zz7]
 refine zvb ?_
 rw [ze8]
 refine cNe (fun h => absurd rfl h) fun _ => ?_
 refine zex (d := 1) (fun _ _ => ?_) fun h => by omega
 rw [zbx]
 refine cNe (fun h => absurd (hM'.tot 1) h) fun _ => ?_
 refine zex (d := 2) (fun _ _ => ?_) fun h => by omega
 rw [zbx]
 refine cNe (fun h => absurd (hM'.tot 2) h) fun _ => ?_
 refine zex (d := 3) (fun _ _ => ?_) fun h => by omega
 rw [zbx]
 refine cNe (fun h => absurd (hM'.tot 3) h) fun _ => ?_
 refine zex (d := 4) (fun _ _ => ?_) fun h => by omega
 rw [zbx]
 refine cNe (fun h => absurd (hM'.tot 4) h) fun _ => ?_
 refine locks_S (C := cW which) hW' hM' (by omega) ?_
 rw [post_B6]
 simp only [z3s, cond_false]
 have ek : z13 .i64 ((k : Int) + 1) = ((k + 1 : Nat) : Int) := by rw [w64 (by omega) (by omega)]; omega
 rw [ek]
 exact ⟨⟨k + 1, s', by first | trivial | rfl, by first | trivial | rfl, by first | trivial | rfl, by first | trivial | rfl, by first | trivial | rfl, by first | trivial | rfl, by first | trivial | rfl, by first | trivial | rfl, by first | trivial | rfl, by first | trivial | rfl, by first | trivial | rfl, by first | trivial | rfl, by first | trivial | rfl, by first | trivial | rfl, by first | trivial | rfl, by first | trivial | rfl, by omega, hW', by omega, hn', hl', hd', hM'⟩, by first | omega | (dsimp only; omega)⟩
theorem zkm {x0 : U} {rows1 : List (List U)} (sh0 : ShU (.i .i64 .nil) [x0]) (hl1 : rows1.length ≤ maxLen) (hs1 : ∀ r ∈ rows1, ShU dsA r) : PRun Tryz.prog 6 [] [.u x0, .l 23 rows1] fun v _ => v = .u (.b true) := by
 obtain ⟨n, _, h, -, -⟩ := sh0
 cases h
 obtain ⟨L, rfl⟩ := act_conv hs1
 exact (zk9 n L).mono fun _ _ h => h.1
end
section
open Go.ChangeShapes Go.WideShapes Go.ChangeAt Go.RowKit
set_option maxRecDepth 100000 in
theorem zhf (os : Os) (started : os.Started) (H : Type) (enc : TypeId × Value → H) :
 ReturnsInHanded {} Tryz.checked os 6 .any (Rows.marketKeepsSpec.pre6 enc Tryz.prog Tryz.f6 Rows.marketKeepsRow.domain false) (Rows.marketKeepsSpec.post enc Tryz.prog Tryz.f6 false true false false) := by
 refine returnsInHanded_of_change (C := Tryz.checked) Tryz.own started (by kernel_rfl) Tryz.func6
  (ChangeSpec.witness6 (enc := enc) (C := Tryz.checked) false ⟨#[], #[.int .i64 0, .slice none 0 0], []⟩ 8 (by kernel_rfl) (by kernel_rfl) (by kernel_rfl) (by kernel_rfl)) ?_
 intro W base args ds gs before hval0 hW hcnd _
 have hval : ∀ (j : Nat) t v, Tryz.f6.params[j]? = some t → args[j]? = some v → Value.okWide Tryz.prog W .any base t v := hval0
 have hW' := hW
 obtain ⟨p, q, hA0, hV, rfl, hfz, hnd⟩ := hW
 have hA : DataW.TrodAll enc Tryz.prog W 0 (fun _ => true) true Tryz.f6.params.toList args.toList ds p := hA0
 rw [Tryz.params6] at hA hval
 obtain ⟨v0, v1, d0, d1, p0, p1, rfl, rfl, rfl, h0, h1⟩ := trodAll_two hA
 obtain ⟨rfl, rfl⟩ := trodVars_none hV
 obtain ⟨us0, hr0, sh0⟩ := zqz (ds := (.i .i64 .nil)) (by kernel_rfl) h0
 obtain ⟨x0, rfl⟩ : ∃ x, us0 = [x] := by obtain ⟨_, _, rfl, hh⟩ := sh0; obtain rfl : _ = [] := (by first | exact hh | exact hh.2); exact ⟨_, rfl⟩
 have hr0 : Rd (zp0 W.heap) v0 x0 := rd_int (hval 0 3 v0 rfl rfl) Tryz.underlying3 hr0
 obtain ⟨us1, hr1, sh1⟩ := zqz (ds := (.l 23 (.i .i64 (.i .i64 (.i .i64 (.i .i64 (.i .i64 (.i .i64 (.i .i64 (.i .i64 (.i .i64 (.i .i64 (.i .i64 (.i .i64 (.i .i64 (.i .i64 (.i .i64 (.i .i64 (.i .i64 (.l 2 (.i .i64 (.i .i64 .nil)) (.l 2 (.i .i64 (.i .i64 .nil)) (.i .i64 (.i .i64 (.i .i64 (.i .i64 .nil))))))))))))))))))))))) .nil)) (by kernel_rfl) h1
 obtain ⟨a1, n1, c1, rfl⟩ := Go.WideShapes.okWide_slice Tryz.underlying49 (hval 1 49 v1 rfl rfl)
 obtain ⟨rows1, _, rfl, hl1, hs1, rfl⟩ := sh1
 clear hA0 hval0
 refine ((zkm sh0 hl1 hs1 (zp0 W.heap) [] [] [] W.heap _ (SAt.all W.heap) (.cons (.u hr0) (.cons (rp_slice hr1) (.nil)))).2 W rfl).mono ?_
 rintro e W' ⟨v, rfl, ⟨D', ρ', chs', x, m', le, M', hv, rfl⟩, hsm⟩
 obtain rfl : v = .bool true := by cases hv with | u h => cases h; rfl
 have hb := belowOf (St.kept le M'.st) hsm
 have hlt0 : ∀ x ∈ p0, x.block < W.heap.size := fun x hx => by simpa using hW'.lt x (by simp [hx])
 have hlt1 : ∀ x ∈ p1, x.block < W.heap.size := fun x hx => by simpa using hW'.lt x (by simp [hx])
 exact ⟨_, rfl, _, _, _, [], _, [], hW', trodAll_mk1 (shut_bool Tryz.underlying4 true), trodAll_mk2 (hb.trod Tryz.laidOut (by kernel_rfl) (of_decide_eq_true (by kernel_rfl)) h0 hlt0) (hb.trod Tryz.laidOut (by kernel_rfl) (of_decide_eq_true (by kernel_rfl)) h1 hlt1), rfl, hb.frame _, fun h => by cases h⟩
theorem zgp {a b : Bool} (h1 : a = true) (h2 : b = true) : (a && b) = true := by rw [h1, h2]; rfl
theorem zmm : (Rows.marketKeepsRow.wf (OpenSpec.ofChange Rows.marketKeepsSpec)) = true := by kernel_rfl
theorem zml : (laidOutB Tryz.prog) = true := by kernel_rfl
theorem zmk : (mapsRowed Tryz.prog) = true := by kernel_rfl
theorem zmj : (Tryz.f6.params.all (Tryz.prog.readableRec ·)) = true := by kernel_rfl
theorem zmi : (namedTie Tryz.prog Rows.marketKeepsRow.named Rows.marketKeepsSpec.vars) = true := by kernel_rfl
theorem zmh : ((Rows.marketKeepsRow.stops == [])) = true := by kernel_rfl
theorem zmg : ((Tryz.prog.stops == [])) = true := by kernel_rfl
theorem zmf : ((Rows.marketKeepsRow.knobs == [])) = true := by kernel_rfl
theorem zme : ((Tryz.prog.stopKnobs == [])) = true := by kernel_rfl
theorem zmd : ((Rows.marketKeepsRow.inPlace == Tryz.prog.inPlace 6)) = true := by kernel_rfl
theorem zk8 : ((Rows.marketKeepsRow.unfollowed == Tryz.prog.unfollowed 6)) = true := by kernel_rfl
theorem zk7 : ((Rows.marketKeepsRow.recurses == Tryz.prog.recurses 6)) = true := by kernel_rfl
theorem zk6 : ((Rows.marketKeepsRow.named == Tryz.prog.varsNamed 6)) = true := by kernel_rfl
theorem zk5 : ((Rows.marketKeepsRow.maps == (Tryz.f6.params.toList ++ Rows.marketKeepsSpec.plain.varTypes Tryz.prog).any (Tryz.prog.mapsRec ·))) = true := by kernel_rfl
theorem zk4 : ((Rows.marketKeepsRow.ifaces == (Tryz.f6.params.toList ++ Rows.marketKeepsSpec.plain.varTypes Tryz.prog).any (Tryz.prog.ifacesRec ·))) = true := by kernel_rfl
theorem zk3 : ((Rows.marketKeepsRow.mapsOut == Tryz.prog.mapsAmong Tryz.f6.resultTypes.toList)) = true := by kernel_rfl
theorem zk2 : ((Rows.marketKeepsRow.loops == (Tryz.f6.params.toList ++ Rows.marketKeepsSpec.plain.varTypes Tryz.prog).any (Tryz.prog.loopsFrom ·))) = true := by kernel_rfl
theorem zk1 : ((Rows.marketKeepsRow.wideKeys == (Tryz.f6.params.toList ++ Rows.marketKeepsSpec.plain.varTypes Tryz.prog ++ Tryz.f6.resultTypes.toList).any (Tryz.prog.wideKeysFrom ·))) = true := by kernel_rfl
theorem zk0 : (Rows.marketKeepsSpec.vars.all (Tryz.prog.varReadable ·)) = true := by kernel_rfl
theorem zkz : (Tryz.f6.resultTypes.all (fun t => Tryz.prog.readableRec t && decide (t < Tryz.prog.types.size))) = true := by kernel_rfl
theorem zky : ((Rows.marketKeepsRow.ifacesOut == Tryz.f6.resultTypes.toList.any (Tryz.prog.ifacesRec ·))) = true := by kernel_rfl
theorem zkx : ((Rows.marketKeepsRow.loopsOut == Tryz.f6.resultTypes.toList.any (Tryz.prog.loopsFrom ·))) = true := by kernel_rfl
theorem zkw : ((Rows.marketKeepsRow.plainKeys == Tryz.prog.plainKeys)) = true := by kernel_rfl
theorem zkv : (Rows.marketKeepsRow.shortTexts.isNone) = true := by kernel_rfl
theorem zku : (Tryz.prog.stopsHeard) = true := by kernel_rfl
theorem zkt : (Tryz.prog.mayEnter) = true := by kernel_rfl
theorem zks : ((Rows.marketKeepsRow.lifted == Tryz.prog.liftsFinal)) = true := by kernel_rfl
theorem zkr : ((Tryz.prog.make == some Rows.marketKeepsRow.make)) = true := by kernel_rfl
theorem zkq : ((Rows.marketKeepsRow.kinds == (if Rows.marketKeepsRow.domain.isEmpty then [] else Tryz.f6.params.toList.map fun t => match Tryz.prog.underlying t with | some (.int k) => some k | _ => none))) = true := by kernel_rfl
theorem zkp : ((Rows.marketKeepsRow.pinned == Rows.marketKeepsRow.pinnedBy)) = true := by kernel_rfl
theorem zko : ((Rows.marketKeepsRow.veiled == (Tryz.f6.params.toList ++ Rows.marketKeepsSpec.plain.varTypes Tryz.prog ++ Tryz.f6.resultTypes.toList).any (Tryz.prog.veiledRec ·))) = true := by kernel_rfl
theorem zkn : (Rows.marketKeepsRow.veiledFits Tryz.prog Tryz.f6.params.toList (Tryz.f6.params.toList ++ Rows.marketKeepsSpec.plain.varTypes Tryz.prog ++ Tryz.f6.resultTypes.toList)) = true := by kernel_rfl
set_option maxRecDepth 100000 in
theorem zhg : joinedFacts Tryz.prog 6 Tryz.f6 Rows.marketKeepsSpec Rows.marketKeepsRow = true := (zgp (zgp (zgp (zgp (zgp (zgp (zgp (zgp (zgp (zgp (zgp (zgp (zgp (zgp (zgp (zgp (zgp (zgp (zgp (zgp (zgp (zgp (zgp (zgp (zgp (zgp (zgp (zgp (zgp (zgp (zgp zmm zml) zmk) zmj) zmi) zmh) zmg) zmf) zme) zmd) zk8) zk7) zk6) zk5) zk4) zk3) zk2) zk1) zk0) zkz) zky) zkx) zkw) zkv) zku) zkt) zks) zkr) zkq) zkp) zko) zkn)
theorem marketKeeps_holds : Rows.MarketKeepsSaid :=
 OpenClaim.holds_of_wide 6 Tryz.f6 rfl rfl rfl rfl rfl rfl rfl ⟨rfl, rfl, rfl, rfl, rfl⟩ rfl rfl rfl rfl rfl (by kernel_rfl) Tryz.func6 zhg
  (of_decide_eq_true (by kernel_rfl)) (by unfold Func.isWrapper; first | (rw [if_pos (by decide +kernel)]; kernel_rfl) | (rw [if_neg (by decide +kernel)]; exact ⟨rfl, rfl⟩))
  (fun os started H enc _ => zhf os started H enc)
end
end Go.Proofs.YtalglagdgabafaaGreat
