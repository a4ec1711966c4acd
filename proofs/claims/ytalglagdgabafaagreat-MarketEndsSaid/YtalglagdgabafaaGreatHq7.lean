/- The row of MarketEnds: whatever it is given it returns true, and what it was given reads as it did. -/
import Derived.Test.YtalglagdgabafaaGreatHq6
import Derived.Test.YtalglagdgabafaaGreatProg
set_option linter.unusedVariables false
namespace Go.Proofs.YtalglagdgabafaaGreat
open _root_.Bool renaming and_eq_true → z17, not_eq_true' → z2u, not_false → z37, not_true → z3b
open _root_.Int renaming le_refl → z2y, toNat_natCast → z27
open _root_.Go.IntKind renaming wrap → z13
open _root_.List renaming append_nil → z3a, eq_nil_of_length_eq_zero → z3s, getElem?_eq_getElem → z2c, getElem?_eq_some_iff → z2a, getElem?_map → z2j, getElem?_set → z4x, length → z15, length_map → z2d, length_set → z3n, map → z24, mem_cons → z2e, mem_cons_of_mem → z2k, mem_cons_self → z2r, mem_flatMap → z5r, mem_iff_getElem? → z3x, mem_of_getElem? → z2x, pairwise_map → z6c, range → z2b
open _root_.Nat renaming beq → z14, ble → z19, eq_of_beq_eq_true → z18, le_of_ble_eq_true → z2v, zero_le → z3i
section
set_option maxRecDepth 1000000
section
variable {P : Program} {D D' : Fz} {ρ ρ' : List Loc} {m m' : Mem} {chs C : List zab} {h h' : zac} {ro hr : List Nat}
def spClo (G : Nat) (Ts : List TypeId) (A : List V) (R : V) (T : Mem) (hA : zak A = []) (hren : zd3 (fun b => zhl [] b 0) A = A) (hrun : PRun P G [] A fun x m => x = R ∧ m = T) : SP P where
 f ro _ g args m K := cond (z14 g G) (match frzL ro m (zk5 P Ts args) with
   | some (as', m1) => some (as' = A ∧ K (zce (fK [] m1.length) R) (zto m1 [] T))
   | none => some False) none
 ok := by
  intro ro hr X call hX hcall g args m KS p hs hp D ρ chs C h vs xx M ha
  cases hg : z14 g G with
  | false => rw [hg] at hs; cases hs
  | true =>
    rw [hg] at hs
    have := z18 hg
    subst this
    simp only [cond_true] at hs
    split at hs
    · rename_i as' m1 hf
      cases hs
      obtain ⟨rfl, hK⟩ := hp
      have ha := zs2 (P := P) (Ts := Ts) ha
      obtain ⟨D1, c1, n1, M1, ra⟩ := zu9 hf M ha
      refine (zhu (P := P) (ro := ro) (hr := hr) (X := X) (KS := KS) ⟨[], R, T, by simp, fun b hb => by simp at hb, fun b hb => by simp at hb, fun b hb => by rw [hA] at hb; simp at hb, by rw [hren]; exact hrun, hK⟩ M1 ra).mono ?_
      rintro v h' ⟨D2, ρ2, m2, c2, x, n2, M2, hv, hq⟩
      exact ⟨D2, ρ2, m2, c2, x, n1.trans n2, M2, hv, hq⟩
    · cases hs; exact hp.elim
theorem PRun.packN {P : Program} {g : FuncId} {args : List V} {T T2 : Mem} {S : Mem → Prop} (hh : PRun P g [] args fun x m' => x = .t [.r 0 0, .i 0] ∧ m' = T) (hN : Nrm T T2) (hS : S T2) : PRun P g [] args fun x m' => x = .t [.r 0 0, .i 0] ∧ m' = [.o (Ob.of S)] := by
 intro D ρ chs C hp vs M F
 have hρ : ρ = [] := z3s M.len
 subst hρ
 refine (hh D [] chs C hp vs M F).mono ?_
 rintro v h2 ⟨D2, s, cs, x, m', le, M2, hv, rfl, rfl⟩
 cases hv with
 | t hv =>
   cases hv with
   | cons h1 h3 =>
     obtain ⟨L, hL, rfl⟩ := h1.r_inv
     obtain ⟨ρ2, cs2, l1, l2, l3, pm, ent⟩ := hN D2 s cs (by simpa using M2.len) M2.lch (by simpa using M2.ent)
     refine ⟨D2, [L], [cs2.flatten], _, _, le, ⟨rfl, rfl, ?_, M2.st.perm (by simpa using pm.append_right _)⟩, .t (.cons (.r rfl) (zuc h3 rfl)), rfl, rfl⟩
     rintro i K ab c q1 q2 q3
     cases i with
     | zero =>
       simp at q1 q2 q3
       subst q1 q2 q3
       exact .o ⟨T2, ρ2, cs2, hS, l1, l2, ⟨L, l3 L (by simpa using hL), rfl⟩, rfl, ent⟩
     | succ i => simp at q2
end
theorem que_nrm : Nrm [.c [.nl 3, .m 1, .i 256, .i 1], .p .n 1 false []] (qM [] [] 256 1) := by
 intro D ρ chs h1 h2 he
 match ρ, chs, h1, h2 with
 | [L0, L1], [c0, c1], _, _ =>
   have e0 := he 0 L0 _ c0 rfl rfl rfl
   have e1 := he 1 L1 _ c1 rfl rfl rfl
   refine ⟨[L0, ⟨0, none, 0, 0, none⟩, L1], [c0, [], c1], rfl, rfl, fun L h => h, by simp, fun i L ab c q1 q2 q3 => ?_⟩
   match i, q1, q2, q3 with
   | 0, q1, q2, q3 =>
     cases q1; cases q2; cases q3
     cases e0 with
     | c hc =>
       cases hc with
       | cons a1 _ hc =>
         cases hc with
         | cons a2 _ hc =>
           cases a1
           cases a2 with
           | m hm =>
             cases hm
             refine .c (.cons (.w (b := 1) (L := ⟨0, none, 0, 0, none⟩) rfl) (fun _ _ _ h => nomatch h) (.cons (.m (b := 2) rfl) (fun _ _ _ h => nomatch h) ?_))
             cases hc with
             | cons a3 _ hc =>
               cases hc with
               | cons a4 _ hc =>
                 cases hc
                 cases a3; cases a4
                 rename_i x3 x4
                 exact .cons (.u x3) (fun _ _ _ h => nomatch h) (.cons (.u x4) (fun _ _ _ h => nomatch h) .nil)
   | 1, q1, q2, q3 =>
     cases q1; cases q2; cases q3
     exact .w .nil rfl
   | 2, q1, q2, q3 =>
     cases q1; cases q2; cases q3
     cases e1 with
     | p a b c => exact .p a b c
   | i + 3, q1, q2, q3 => simp at q2
theorem pur1_S : PRun Tryz.prog 33 [] purA fun x m => x = .t [.r 0 0, .i 0] ∧ m = [pC p0 562] :=
 PRun.trim (PRun.frz 0 0 (pur0_S.mono (by rintro _ _ ⟨rfl, rfl⟩; exact ⟨rfl, rfl⟩)))
theorem bin1_S : PRun Tryz.prog 34 [] binA fun x m => x = .t [.r 0 0, .i 0] ∧ m = [bK b0] :=
 PRun.trim (PRun.frz 0 0 (bin0_S.mono (by rintro _ _ ⟨rfl, rfl⟩; exact ⟨rfl, rfl⟩)))
theorem que1_S : PRun Tryz.prog 22 [] [.i 256] fun x m => x = .t [.r 0 0, .i 0] ∧ m = [qO [] 256 1] :=
 PRun.packN que0_S que_nrm ⟨⟨by decide, by decide, by decide, by decide, fun x hx => by simp at hx⟩, [], [], ⟨fun i _ x y hx => by simp at hx, ⟨fun i x hx => by simp at hx, fun id r h => (by cases h), by simp⟩, by simp [Ids]⟩, .refl _, rfl⟩
end
section
set_option maxRecDepth 1000000
variable {Q : V → Mem → Prop}
theorem nilC_S {s : Nat} (k : Q (.nl 19) []) : PRun Tryz.prog 75 [] [.nl s] Q := by
 have hV : Q (.nl 19) [] = runS Tryz.prog ⟨[], [], [], [], [], true, 64, KN.no, true, SP.no⟩ 2 .out 75 [] [] (zbd Tryz.f75) (zxn Tryz.prog true Tryz.f75 (endS true ([] : Mem).length Q)) (zdx Tryz.prog true Tryz.f75 [.nl s]) [] := by kernel_rfl
 exact funSG ze1 (gc := true) (H := ⟨[], [], [], [], [], true, 64, KN.no, true, SP.no⟩) (n := 2) Tryz.func75 (by kernel_rfl) (c := zbd Tryz.f75) (by kernel_rfl) (hV ▸ k)
section
variable {P : Program} {D D' : Fz} {ρ ρ' : List Loc} {m m' : Mem} {chs C : List zab} {h h' : zac} {ro hr : List Nat}
def spNil : SP Tryz.prog where
 f ro _ g args m K := cond (z14 g 75) (match args with
   | [.nl _] => some (K (.nl 19) (zto m [] []))
   | _ => none) none
 ok := by
  intro ro hr X call hX hcall g args m KS p hs hp D ρ chs C h vs xx M ha
  cases hg : z14 g 75 with
  | false => rw [hg] at hs; cases hs
  | true =>
    rw [hg] at hs
    have := z18 hg
    subst this
    simp only [cond_true] at hs
    split at hs
    · cases hs
      exact zhu (X := X) ⟨[], .nl 19, [], by simp, fun b hb => by simp at hb, fun b hb => by simp at hb, fun b hb => by simp [zak, zae] at hb, nilC_S ⟨rfl, rfl⟩, hp⟩ M ha
    · cases hs
end
theorem mload_S {c_0 : Int} {c_1 : List (List U)} {c_2 : Int} {c_3 : List (List U)} {c_4 c_5 c_6 c_7 : Int} {p : List (List U)} {pn : Int} {b : List (List U)} {bt : List Int} {G : Ob}
 (hh : PRun Tryz.prog 73 [] [.a [.i c_0, .l 7 c_1, .i c_2, .l 4 c_3, .i c_4, .i c_5, .i c_6, .i c_7]] (post [.I] [] (fun x1 => (bif x1 != 0 then Q (.t [.u (.p none), .i x1]) [.c [.l 5 p, .i pn], .c [.l 5 b, .n .i64 33 bt], .o G, .c [.nl 4, .nm]] else Q (.t [.r 4 0, .i 0]) [.c [.l 5 p, .i pn], .c [.l 5 b, .n .i64 33 bt], .o G, .c [.nl 4, .nm], .c [.i c_0, .l 7 c_1, .i c_2, .l 4 c_3, .i c_4, .i c_5, .i c_6, .i c_7, .r 0 0, .r 1 0, .r 2 0, .r 3 0, .nl 19]] : Prop)))) :
 PRun Tryz.prog 27 [.c [.l 5 p, .i pn], .c [.l 5 b, .n .i64 33 bt], .o G, .c [.nl 4, .nm]] [.a [.i c_0, .l 7 c_1, .i c_2, .l 4 c_3, .i c_4, .i c_5, .i c_6, .i c_7], .r 0 0, .r 1 0, .r 2 0, .r 3 0, .nl 0] Q := by
 have hV : _ = runS Tryz.prog ⟨[], [], [], [], [], false, 64, KN.no, true, spNil⟩ 2 .out 27 [] [] (zbd Tryz.f27) (zxn Tryz.prog true Tryz.f27 (endS false ([.c [.l 5 p, .i pn], .c [.l 5 b, .n .i64 33 bt], .o G, .c [.nl 4, .nm]] : Mem).length Q)) (zdx Tryz.prog true Tryz.f27 [.a [.i c_0, .l 7 c_1, .i c_2, .l 4 c_3, .i c_4, .i c_5, .i c_6, .i c_7], .r 0 0, .r 1 0, .r 2 0, .r 3 0, .nl 0]) [.c [.l 5 p, .i pn], .c [.l 5 b, .n .i64 33 bt], .o G, .c [.nl 4, .nm]] := id (by kernel_rfl : (PRun Tryz.prog 73 [] [.a [.i c_0, .l 7 c_1, .i c_2, .l 4 c_3, .i c_4, .i c_5, .i c_6, .i c_7]] (post [.I] [] (fun x1 => (bif x1 != 0 then Q (.t [.u (.p none), .i x1]) [.c [.l 5 p, .i pn], .c [.l 5 b, .n .i64 33 bt], .o G, .c [.nl 4, .nm]] else Q (.t [.r 4 0, .i 0]) [.c [.l 5 p, .i pn], .c [.l 5 b, .n .i64 33 bt], .o G, .c [.nl 4, .nm], .c [.i c_0, .l 7 c_1, .i c_2, .l 4 c_3, .i c_4, .i c_5, .i c_6, .i c_7, .r 0 0, .r 1 0, .r 2 0, .r 3 0, .nl 19]] : Prop)))) = _)
 exact funSG ze1 (gc := true) (H := ⟨[], [], [], [], [], false, 64, KN.no, true, spNil⟩) (n := 2) Tryz.func27 (by kernel_rfl) (c := zbd Tryz.f27) (by kernel_rfl) (hV ▸ hh)
end
section
variable {P : Program} {D D' : Fz} {ρ ρ' : List Loc} {m m' : Mem} {chs C : List zab} {h h' : zac} {ro hr : List Nat}
def zz4 (ro : List Nat) : List Nat → Bool
 | [] => true
 | b :: l => !inL ro b && zz4 ro l
theorem zql {ro : List Nat} : ∀ {l : List Nat}, zz4 ro l = true → ∀ b ∈ l, b ∉ ro
 | [], _, b, hb => by simp at hb
 | x :: l, h, b, hb => by
   simp only [zz4, z17, z2u] at h
   rcases z2e.1 hb with rfl | hb
   · exact fun hh => by rw [inL_iff.2 hh] at h; cases h.1
   · exact zql h.2 b hb
def spLoad : SP Tryz.prog where
 f ro _ g args m K := cond (z14 g 27) (match args with
   | [.a cs, .r a 0, .r b 0, .r c 0, .r d 0, .nl s] => cond (z19 (a + 1) b && (z19 (b + 1) c && (z19 (c + 1) d && (zf7 m.length [a, b, c, d] && (zz4 ro [a, b, c, d] && (zd0 [a, b, c, d] ([a, b, c, d].flatMap fun b => za6 (mg m b)) && zd0 [a, b, c, d] (zak args)))))))
     (some (PRun Tryz.prog 27 (zma m [a, b, c, d]) (zd3 (fun x => zhl [a, b, c, d] x 0) args) (fun x m' => x = .t [.r 4 0, .i 0] ∧ m' = zma m [a, b, c, d] ++ [.c (cs ++ [.r 0 0, .r 1 0, .r 2 0, .r 3 0, .nl 19])]) ∧
      K (zce (fK [a, b, c, d] m.length) (.t [.r 4 0, .i 0])) (zto m [a, b, c, d] (zma m [a, b, c, d] ++ [.c (cs ++ [.r 0 0, .r 1 0, .r 2 0, .r 3 0, .nl 19])])))) (some False)
   | _ => none) none
 ok := by
  intro ro hr X call hX hcall g args m KS p hs hp D ρ chs C h vs xx M ha
  cases hg : z14 g 27 with
  | false => rw [hg] at hs; cases hs
  | true =>
    rw [hg] at hs
    have := z18 hg
    subst this
    simp only [cond_true] at hs
    split at hs
    · rename_i cs a b c d s
      generalize hc : (z19 (a + 1) b && (z19 (b + 1) c && (z19 (c + 1) d && (zf7 m.length [a, b, c, d] && (zz4 (hr ++ ro) [a, b, c, d] && (zd0 [a, b, c, d] ([a, b, c, d].flatMap fun b => za6 (mg m b)) && zd0 [a, b, c, d] (zak [.a cs, .r a 0, .r b 0, .r c 0, .r d 0, .nl s]))))))) = cc at hs
      cases cc with
      | false => cases hs; exact hp.elim
      | true =>
        cases hs
        simp only [z17] at hc
        obtain ⟨h1, h2, h3, h4, h5, h6, h7⟩ := hc
        have h1 := z2v h1
        have h2 := z2v h2
        have h3 := z2v h3
        refine zhu (X := X) ⟨[a, b, c, d], _, _, by simp; omega, fun x hx => ⟨zdz h4 x hx, zql h5 x hx⟩, fun x hx y hy => zbz h6 y (z5r.2 ⟨x, hx, hy⟩), fun x hx => zbz h7 x hx, hp.1, hp.2⟩ M ha
    · cases hs
end
section
set_option maxRecDepth 100000
theorem mixTb1 : Tryz.prog.follows .mixedOrders = true := by kernel_rfl
theorem S26 {which : Int} {Q : V → Mem → Prop} (hh : 0 ≤ (1 : Int) ∧ (0 ≤ (2 : Int) ∧ (zbs [] [[.n 1, .n 0, .n 1, .n 1, .n 60]] ∧ (zbs [[.n 1, .n 0, .n 1, .n 1, .n 60]] [[.n 1, .n 0, .n 1, .n 2, .n 40]] ∧ (zbs [[.n 1, .n 0, .n 1, .n 1, .n 60], [.n 1, .n 0, .n 1, .n 2, .n 40]] [[.n 1, .n 0, .n 1, .n 3, .n 20]] ∧ (zbs [[.n 1, .n 0, .n 1, .n 1, .n 60], [.n 1, .n 0, .n 1, .n 2, .n 40], [.n 1, .n 0, .n 1, .n 3, .n 20]] [[.n 2, .n 0, .n 1, .n 1, .n 60]] ∧ (zbs [[.n 1, .n 0, .n 1, .n 1, .n 60], [.n 1, .n 0, .n 1, .n 2, .n 40], [.n 1, .n 0, .n 1, .n 3, .n 20], [.n 2, .n 0, .n 1, .n 1, .n 60]] [[.n 2, .n 0, .n 1, .n 2, .n 40]] ∧ (zbs [[.n 1, .n 0, .n 1, .n 1, .n 60], [.n 1, .n 0, .n 1, .n 2, .n 40], [.n 1, .n 0, .n 1, .n 3, .n 20], [.n 2, .n 0, .n 1, .n 1, .n 60], [.n 2, .n 0, .n 1, .n 2, .n 40]] [[.n 2, .n 0, .n 1, .n 3, .n 20]] ∧ (Q (.t [.a [.i 4, .l 7 [[.n 3, .n 2, .n 10, .l 2 [[.n 1, .n 3], [.n 2, .n 1]], .n 2, .n 3, .n 5], [.n 4, .n 1, .n 7, .l 2 [[.n 3, .n 2]], .n 0, .n 0, .n 3]], .i 2, .l 4 [[.n 1, .n (z13 .i64 (1 + z13 .i64 (BitVec.toNat (BitVec.ofInt 64 which &&& (BitVec.ofInt 64 1)) : Int))), .n 1, .n 1000], [.n (z13 .i64 (1 + z13 .i64 (BitVec.toNat (BitVec.ofInt 64 (Int.fdiv which (2 ^ (1))) &&& (BitVec.ofInt 64 1)) : Int))), .n 1, .n (z13 .i64 (BitVec.toNat (BitVec.ofInt 64 (Int.fdiv which (2 ^ (2))) &&& (BitVec.ofInt 64 1)) : Int)), .n 0]], .i 3, .i 200, .i 1, .i 500], .l 2 [[.n 0, .n 0], [.n 1, .n 60], [.n 2, .n 500], [.n 3, .n 2]], .l 5 [[.n 1, .n 0, .n 1, .n 1, .n 60], [.n 1, .n 0, .n 1, .n 2, .n 40], [.n 1, .n 0, .n 1, .n 3, .n 20], [.n 2, .n 0, .n 1, .n 1, .n 60], [.n 2, .n 0, .n 1, .n 2, .n 40], [.n 2, .n 0, .n 1, .n 3, .n 20]], .l 9 [[.n 0, .n 1, .n 0, .n 1, .n 1, .n 0, .n 0, .n (-1), .n 0], [.n 0, .n 2, .n 0, .n 1, .n 2, .n 0, .n 0, .n (-1), .n 0], [.n 0, .n 1, .n 0, .n 1, .n 2, .n 3, .n 0, .n 4, .n 0], [.n 0, .n 2, .n 0, .n 1, .n 1, .n 0, .n 8, .n (-1), .n 0], [.n 0, .n 1, .n 0, .n 2, .n 1, .n 0, .n 0, .n (-1), .n 0]]]) []))))))))) : PRun Tryz.prog 26 [] [.i which] Q :=
 zal mixTb1 Tryz.func26 (by kernel_rfl) (H := ⟨[], [], [], [], [], false, 64, KN.no, false, SP.no⟩) (n := 2) (by kernel_rfl) hh
theorem S7 {which : Int} {Q : V → Mem → Prop} (hh : PRun Tryz.prog 26 [] [.i which] (post [.agg [.i .i64, .l 7, .i .i64, .l 4, .i .i64, .i .i64, .i .i64, .i .i64], .L 2, .L 5, .L 9] [] (fun x1 l1 x2 l2 x3 x4 x5 x6 l3 l4 l5 => (([.l 2 l3] : List V) = purA ∧ (([.l 5 l4] : List V) = binA ∧ (([.i 256] : List V) = [.i 256] ∧ (PRun Tryz.prog 27 [.c [.l 5 (z24 eT p0), .i 562], .c [.l 5 (z24 eT b0), .n .i64 33 (zfw b0)], .o (Ob.of (qS [] 256 1)), .c [.nl 4, .nm]] [.a [.i x1, .l 7 l1, .i x2, .l 4 l2, .i x3, .i x4, .i x5, .i x6], .r 0 0, .r 1 0, .r 2 0, .r 3 0, .nl 0] (fun x m => x = .t [.r 4 0, .i 0] ∧ m = [.c [.l 5 (z24 eT p0), .i 562], .c [.l 5 (z24 eT b0), .n .i64 33 (zfw b0)], .o (Ob.of (qS [] 256 1)), .c [.nl 4, .nm], .c [.i x1, .l 7 l1, .i x2, .l 4 l2, .i x3, .i x4, .i x5, .i x6, .r 0 0, .r 1 0, .r 2 0, .r 3 0, .nl 19]]) ∧ (Q (.t [.a [.r 0 0, .r 1 0, .r 2 0, .r 3 0, .r 4 0], .u (.b true)]) [.c [.i x1, .l 7 l1, .i x2, .l 4 l2, .i x3, .i x4, .i x5, .i x6, .r 1 0, .r 2 0, .r 3 0, .r 4 0, .nl 19], .c [.l 5 (z24 eT p0), .i 562], .c [.l 5 (z24 eT b0), .n .i64 33 (zfw b0)], .o (Ob.of (qS [] 256 1)), .c [.nl 4, .nm]])))) : Prop)))) : PRun Tryz.prog 7 [] [.i which] Q :=
 zal mixTb1 Tryz.func7 (by kernel_rfl) (H := ⟨[], [], [23], [], [], false, 64, KN.no, false, ((((spClo 22 [3] [.i 256] (.t [.r 0 0, .i 0]) [qO [] 256 1] rfl rfl que1_S).or (spClo 33 [88] purA (.t [.r 0 0, .i 0]) [pC p0 562] rfl rfl pur1_S)).or (spClo 34 [89] binA (.t [.r 0 0, .i 0]) [bK b0] rfl rfl bin1_S)).or spLoad)⟩) (n := 3) (by kernel_rfl) hh
end
section
set_option maxRecDepth 1000000
abbrev blW : List (List U) := [[.n 3, .n 2, .n 10, .l 2 [[.n 1, .n 3], [.n 2, .n 1]], .n 2, .n 3, .n 5], [.n 4, .n 1, .n 7, .l 2 [[.n 3, .n 2]], .n 0, .n 0, .n 3]]
abbrev byW (a b c : Int) : List (List U) := [[.n 1, .n a, .n 1, .n 1000], [.n b, .n 1, .n c, .n 0]]
abbrev caW (a b c : Int) : V := .a [.i 4, .l 7 blW, .i 2, .l 4 (byW a b c), .i 3, .i 200, .i 1, .i 500]
def w1 (which : Int) : Int := z13 .i64 (1 + z13 .i64 (BitVec.toNat (BitVec.ofInt 64 which &&& (BitVec.ofInt 64 1)) : Int))
def w2 (which : Int) : Int := z13 .i64 (1 + z13 .i64 (BitVec.toNat (BitVec.ofInt 64 (Int.fdiv which (2 ^ (1))) &&& (BitVec.ofInt 64 1)) : Int))
def w3 (which : Int) : Int := z13 .i64 (BitVec.toNat (BitVec.ofInt 64 (Int.fdiv which (2 ^ (2))) &&& (BitVec.ofInt 64 1)) : Int)
theorem bit01 (x : BitVec 64) : (x &&& BitVec.ofInt 64 1).toNat = 0 ∨ (x &&& BitVec.ofInt 64 1).toNat = 1 := by
 rw [BitVec.toNat_and, show (BitVec.ofInt 64 1).toNat = 1 from rfl, Nat.and_one_is_mod]
 omega
theorem w1_12 (w : Int) : w1 w = 1 ∨ w1 w = 2 := by
 unfold w1
 rcases bit01 (BitVec.ofInt 64 w) with h | h <;> rw [h]
 · exact .inl rfl
 · exact .inr rfl
theorem w2_12 (w : Int) : w2 w = 1 ∨ w2 w = 2 := by
 unfold w2
 rcases bit01 (BitVec.ofInt 64 (Int.fdiv w (2 ^ (1)))) with h | h <;> rw [h]
 · exact .inl rfl
 · exact .inr rfl
theorem w3_01 (w : Int) : w3 w = 0 ∨ w3 w = 1 := by
 unfold w3
 rcases bit01 (BitVec.ofInt 64 (Int.fdiv w (2 ^ (2)))) with h | h <;> rw [h]
 · exact .inl rfl
 · exact .inr rfl
theorem ze7 {a b c : Int} (h : funF Tryz.prog (zaj whp) (z2b 600) 300 60 73 Tryz.f73 [] [caW a b c] = some [(.i 0, [])]) : PRun Tryz.prog 73 [] [caW a b c] fun x m => x = .i 0 ∧ m = [] :=
 zfq ze1 (zaj whp) (inl := z2b 600) (nl := 300) (n := 60) Tryz.func73 (by kernel_rfl) (r := (.i 0, [])) h
theorem cat_S (w : Int) : PRun Tryz.prog 73 [] [caW (w1 w) (w2 w) (w3 w)] fun x m => x = .i 0 ∧ m = [] := by
 rcases w1_12 w with h1 | h1 <;> rcases w2_12 w with h2 | h2 <;> rcases w3_01 w with h3 | h3 <;> rw [h1, h2, h3]
 · exact ze7 (by kernel_rfl)
 · exact ze7 (by kernel_rfl)
 · exact ze7 (by kernel_rfl)
 · exact ze7 (by kernel_rfl)
 · exact ze7 (by kernel_rfl)
 · exact ze7 (by kernel_rfl)
 · exact ze7 (by kernel_rfl)
 · exact ze7 (by kernel_rfl)
def cW (w : Int) : Ct := ⟨4, blW, 2, byW (w1 w) (w2 w) (w3 w), 3⟩
abbrev R5 : V := .t [.a [.r 0 0, .r 1 0, .r 2 0, .r 3 0, .r 4 0], .u (.b true)]
abbrev cellsM (C : Ct) : List V := [.i C.c0, .l 7 C.c1, .i C.c2, .l 4 C.c3, .i C.c4, .i 200, .i 1, .i 500, .r 1 0, .r 2 0, .r 3 0, .r 4 0]
abbrev M0 (C : Ct) : Mem := [.c (cellsM C ++ [.nl 19]), pC p0 562, bK b0, qO [] 256 1, .c [.nl 4, .nm]]
theorem begun0_S (w : Int) : PRun Tryz.prog 7 [] [.i w] fun x m => x = R5 ∧ m = M0 (cW w) := by
 refine S7 (S26 ?_)
 refine ⟨by omega, by omega, ?_⟩
 refine ⟨by unfold zbs; simp, by unfold zbs; simp, by unfold zbs; simp, by unfold zbs; simp, by unfold zbs; simp, by unfold zbs; simp, ?_⟩
 refine ⟨rfl, rfl, rfl, mload_S ?_, rfl, rfl⟩
 refine (cat_S w).mono ?_
 rintro _ _ ⟨rfl, rfl⟩
 exact ⟨rfl, rfl⟩
theorem zne {D : Fz} {ρ : List Loc} {b s : Nat} {L : Loc} (hb : ρ[b]? = some L) (h1 : L.a = none) (h2 : L.n = 0) (h3 : L.c = 0) : ∀ {l : List V} {vs : List Value}, RpC D ρ vs (l ++ [.nl s]) → RpC D ρ vs (l ++ [.w b])
 | [], _, h => by
   cases h with
   | cons a _ c =>
     cases a
     have := Rp.w (D := D) hb
     rw [h1, h2, h3] at this
     exact .cons this (fun _ _ _ h => nomatch h) c
 | x :: l, _, h => by
   cases h with
   | cons a k c => exact .cons a k (zne hb h1 h2 h3 c)
   | n e c => exact .n e (zne hb h1 h2 h3 c)
theorem M0_S {D : Fz} {ρ : List Loc} {chs C : List zab} {h : zac} {c : Ct} (M : SAt D ρ (M0 c) chs C h) : ∃ chs', SAt D (ρ ++ [⟨0, none, 0, 0, none⟩]) (M5 c p0 562 b0 (Ob.of (qS [] 256 1)) (Ob.of (zds [])) []) chs' C h := by
 have l1 := M.len
 have l2 := M.lch
 match ρ, chs, l1, l2 with
 | [L0, L1, L2, L3, L4], [c0, c1, c2, c3, c4], _, _ =>
   have e := fun i L ab ch a b c => (M.ent i L ab ch a b c).mono (.refl D) [⟨0, none, 0, 0, none⟩]
   refine ⟨[c0, c1, c2, c3, c4, []], rfl, rfl, fun i L ab ch q1 q2 q3 => ?_, M.st.perm (by simp)⟩
   match i, q1, q2, q3 with
   | 0, q1, q2, q3 =>
     have e0 := e 0 L0 _ c0 rfl rfl rfl
     cases q1; cases q2; cases q3
     cases e0 with
     | c hc => exact .c (zne (b := 5) (L := ⟨0, none, 0, 0, none⟩) rfl rfl rfl rfl hc)
   | 1, q1, q2, q3 => cases q1; cases q2; cases q3; exact e 1 L1 _ c1 rfl rfl rfl
   | 2, q1, q2, q3 => cases q1; cases q2; cases q3; exact e 2 L2 _ c2 rfl rfl rfl
   | 3, q1, q2, q3 => cases q1; cases q2; cases q3; exact e 3 L3 _ c3 rfl rfl rfl
   | 4, q1, q2, q3 =>
     have e4 := e 4 L4 _ c4 rfl rfl rfl
     cases q1; cases q2; cases q3
     refine .o ⟨[.c [.nl 4, .nm]], [L4], [c4], .inl ⟨rfl, rfl⟩, rfl, rfl, ⟨L4, rfl, rfl⟩, by simp, fun i L ab ch q1 q2 q3 => ?_⟩
     cases i with
     | succ i => simp at q1
     | zero =>
       cases q1; cases q2; cases q3
       cases e4 with
       | c hc =>
         cases hc with
         | cons a1 _ hc =>
           cases hc with
           | cons a2 _ hc =>
             cases hc
             cases a1; cases a2
             exact .c (.cons .nl (fun _ _ _ h => nomatch h) (.cons .nm (fun _ _ _ h => nomatch h) .nil))
   | 5, q1, q2, q3 => cases q1; cases q2; cases q3; exact .w .nil rfl
   | i + 6, q1, q2, q3 => simp at q2
theorem begun_S (w : Int) : PRun Tryz.prog 7 [] [.i w] fun x m => x = R5 ∧ m = M5 (cW w) p0 562 b0 (Ob.of (qS [] 256 1)) (Ob.of (zds [])) [] := by
 intro D ρ chs C h vs M F
 have hρ : ρ = [] := z3s M.len
 subst hρ
 refine (begun0_S w D [] chs C h vs M F).mono ?_
 rintro v h2 ⟨D2, s, cs, x, m', le, M2, hv, rfl, rfl⟩
 obtain ⟨cs', M3⟩ := M0_S M2
 refine ⟨D2, s ++ [⟨0, none, 0, 0, none⟩], cs', _, _, le, by simpa using M3, ?_, rfl, rfl⟩
 have := hv.mono (.refl D2) (s := [⟨0, none, 0, 0, none⟩])
 simpa using this
end
section
set_option maxRecDepth 1000000
variable {Q : V → Mem → Prop}
structure Ac where
 kind : Int
 id : Int
 an : Int
 into : Int
 d : Dl
abbrev eA (a : Ac) : List U := [.n a.kind, .n a.id, .n a.an, .n a.into, .n a.d.id, .n a.d.kind, .n a.d.iss, .n a.d.div, .n a.d.bye, .n a.d.to, .n a.d.place, .n a.d.dest, .n a.d.pay, .n a.d.pledge, .n a.d.lasts, .n a.d.days, .n a.d.fee, .l 2 (a.d.gives.map eS), .l 2 (a.d.wants.map eS), .n a.d.st, .n a.d.due, .n a.d.taker, .n a.d.into]
theorem few_S {L : List Ac} {most : Int} (hm : 0 ≤ most ∧ most ≤ 1000) (K : ∀ b : Bool, (b = true → (L.length : Int) ≤ most ∧ ∀ a ∈ L, a.d.gives.length ≤ 12 ∧ a.d.wants.length ≤ 12) → Q (.u (.b b)) []) : PRun Tryz.prog 16 [] [.l 23 (L.map eA), .i most] Q := by
 have hlen : ((L.map eA).length : Int) = (L.length : Int) := by rw [z2d]
 refine S16 ⟨fun x => ∃ k : Nat, x = (k : Int) ∧ (k : Int) ≤ most ∧ ∀ (j : Nat) (a : Ac), j < k → L[j]? = some a → a.d.gives.length ≤ 12 ∧ a.d.wants.length ≤ 12, fun x => (most - x).toNat, ⟨0, rfl, hm.1, fun j a h => by omega⟩, ?_⟩
 rintro _ ⟨k, rfl, hk, hall⟩
 rw [hlen]
 have fin : ((L.length : Int) ≤ most → ∀ a ∈ L, a.d.gives.length ≤ 12 ∧ a.d.wants.length ≤ 12) → Q (.u (.b (decide ((L.length : Int) ≤ most)))) [] := fun h => K _ fun hb => ⟨by simpa using hb, h (by simpa using hb)⟩
 refine cIf (fun h1 => cIf (fun h2 => ?_) fun h2 => fin fun h3 a ha => ?_) fun h1 => fin fun h3 a ha => ?_
 · have hlt : k < L.length := by omega
   have hg := z2c hlt
   have el : ∀ {F : List U → Prop}, elL (L.map eA) (k : Int) F = F (eA L[k]) := fun {F} => zax (by omega) (by rw [z27, z2j, hg]; rfl)
   simp only [el, eA, ug0, ugs, dL_l, z2d]
   refine cIf (fun h3 => K false fun h => by cases h) fun h3 => cIf (fun h4 => K false fun h => by cases h) fun h4 => ?_
   have ek : z13 .i64 ((k : Int) + 1) = ((k + 1 : Nat) : Int) := by rw [w64 (by omega) (by omega)]; omega
   rw [ek]
   refine ⟨⟨k + 1, rfl, by omega, fun j a hj ha => ?_⟩, by omega⟩
   by_cases e : j = k
   · subst e
     rw [hg] at ha
     cases ha
     omega
   · exact hall j a (by omega) ha
 · obtain ⟨j, hj⟩ := z3x.1 ha
   have := (z2a.1 hj).1
   exact hall j a (by omega) hj
 · obtain ⟨j, hj⟩ := z3x.1 ha
   have := (z2a.1 hj).1
   exact hall j a (by omega) hj
theorem zfs {d : Dl} (k : Q (.u (.b (!opn d))) []) : PRun Tryz.prog 19 [] [dV d] Q := by
 refine S19 (cNe (fun h => ?_) fun h => ?_)
 · have : (!opn d) = (d.st != 2) := by
    have h' : (d.st == 1) = false := by simpa using h
    unfold opn; rw [h', Bool.false_or]; rfl
   rw [this] at k; exact k
 · have : (!opn d) = false := by unfold opn; simp [h]
   rw [this] at k; exact k
theorem zyq {L : List Stk} (hl : L.length ≤ 1000) (k : Q (.u (.b true)) []) : PRun Tryz.prog 64 [] [.l 2 (L.map eS), .l 2 (L.map eS)] Q := by
 refine S64 (cNe (fun h => absurd rfl h) fun _ => ⟨fun x => SufI L (fun _ => True) x, fun x => zpd L x, .zero (by omega) trivial, ?_⟩)
 rintro x ⟨r, s, -⟩
 cases r with
 | nil => rw [s.d0, cond_false]; exact k
 | cons q r =>
   simp only [s.d1, s.el, eS, ug0, ugs, zcy, cond_true, beq_self_eq_true, Bool.and_self, z3b, cond_false]
   exact s.step trivial
theorem bare_S {d : Dl} : PRun Tryz.prog 65 [] [dV d] fun x m => x = .a [.n .i64 17 [d.id, d.kind, d.iss, d.div, d.bye, d.to, d.place, d.dest, d.pay, d.pledge, d.lasts, d.days, d.fee, d.st, d.due, d.taker, d.into]] ∧ m = [] :=
 zfq ze1 (zaj whp) (inl := z2b 600) (nl := 300) (n := 60) Tryz.func65 (by kernel_rfl) (r := (.a [.n .i64 17 [d.id, d.kind, d.iss, d.div, d.bye, d.to, d.place, d.dest, d.pay, d.pledge, d.lasts, d.days, d.fee, d.st, d.due, d.taker, d.into]], [])) (by kernel_rfl)
theorem zud {D : Fz} {ρ : List Loc} : ∀ (l : List Int), RpC D ρ (l.map (Value.int .i64)) (l.map V.i)
 | [] => .nil
 | x :: l => .cons (.u (.int _ _)) (fun _ _ _ h => nomatch h) (zud l)
theorem PRun.unN {P : Program} {g : FuncId} {args : List V} {w : Nat} {l : List Int} (hh : PRun P g [] args fun x m => x = .a [.n .i64 w l] ∧ m = []) : PRun P g [] args fun x m => x = .a (l.map V.i) ∧ m = [] := by
 intro D ρ chs C h vs M F
 refine (hh D ρ chs C h vs M F).mono ?_
 rintro v h2 ⟨D2, s, cs, x, m', le, M2, hv, rfl, rfl⟩
 refine ⟨D2, s, cs, _, _, le, M2, ?_, rfl, rfl⟩
 cases hv with
 | a hc =>
   cases hc with
   | cons _ k _ => exact absurd rfl (k _ _ _)
   | n e c =>
     cases c
     rw [z3a]
     exact .a (zud l)
theorem sameD_S {d : Dl} (h : shD d) (k : Q (.u (.b true)) []) : PRun Tryz.prog 20 [] [dV d, dV d] Q := by
 refine S20 (zyq h.1 ?_)
 rw [za5, cond_true]
 refine zyq h.2 ?_
 rw [za5, cond_true]
 refine (PRun.unN bare_S).mono ?_
 rintro _ _ ⟨rfl, rfl⟩
 show PRun _ _ _ _ _
 refine (PRun.unN bare_S).mono ?_
 rintro _ _ ⟨rfl, rfl⟩
 show Q (.u (.b (eqI _ _))) []
 rw [zhx, decide_eq_true rfl]
 exact k
end
section
variable {P : Program} {D D' : Fz} {ρ ρ' : List Loc} {m m' : Mem} {chs C : List zab} {h h' : zac} {ro hr : List Nat}
def spBeg : SP Tryz.prog where
 f ro _ g args m K := cond (z14 g 7) (match args with
   | [.u (.i .i64 w)] => some (K (zce (fK [] m.length) R5) (zto m [] (M5 (cW w) p0 562 b0 (Ob.of (qS [] 256 1)) (Ob.of (zds [])) [])))
   | _ => some False) none
 ok := by
  intro ro hr X call hX hcall g args m KS p hs hp D ρ chs C h vs xx M ha
  cases hg : z14 g 7 with
  | false => rw [hg] at hs; cases hs
  | true =>
    rw [hg] at hs
    have := z18 hg
    subst this
    simp only [cond_true] at hs
    split at hs
    · rename_i w
      cases hs
      exact zhu (X := X) ⟨[], R5, M5 (cW w) p0 562 b0 (Ob.of (qS [] 256 1)) (Ob.of (zds [])) [], by simp, fun b hb => by simp at hb, fun b hb => by simp at hb, fun b hb => by simp [zak, zae] at hb, begun_S w, hp⟩ M ha
    · cases hs; exact hp.elim
end
section
set_option maxRecDepth 100000
theorem mixTn4 : Tryz.prog.follows .mixedOrders = true := by kernel_rfl
theorem S4 {which : Int} {l : List (List U)} {Q : V → Mem → Prop} (hh : PRun Tryz.prog 16 [] [.l 23 l, .i 25] (post [.B] [] (fun b1 => (bif !b1 then PRun Tryz.prog 15 [] [] (post [.B] [] (fun b2 => (Q (.u (.b b2)) [] : Prop))) else ∃ (I1 : Int → Int → Int → List (List U) → Int → List (List U) → Int → Int → Int → Int → List (List U) → List (List U) → Int → List (List U) → List Int → Ob → Ob → Prop) (f1 : Int → Int → Int → List (List U) → Int → List (List U) → Int → Int → Int → Int → List (List U) → List (List U) → Int → List (List U) → List Int → Ob → Ob → Nat), I1 0 0 (cW which).c0 (cW which).c1 (cW which).c2 (cW which).c3 (cW which).c4 200 1 500 [] (z24 eT p0) 562 (z24 eT b0) (zfw b0) (Ob.of (qS [] 256 1)) (Ob.of (zds [])) ∧ (∀ x1 : Int, ∀ x2 : Int, ∀ x3 : Int, ∀ l1 : List (List U), ∀ x4 : Int, ∀ l2 : List (List U), ∀ x5 : Int, ∀ x6 : Int, ∀ x7 : Int, ∀ x8 : Int, ∀ l3 : List (List U), ∀ l4 : List (List U), ∀ x9 : Int, ∀ l5 : List (List U), ∀ a1 : List Int, ∀ X1 : Ob, ∀ X2 : Ob, I1 x1 x2 x3 l1 x4 l2 x5 x6 x7 x8 l3 l4 x9 l5 a1 X1 X2 → (bif decide (x2 < (z15 l : Int)) then elL l x2 (fun r1 => dI .i64 (ug r1 0) (fun x10 => dI .i64 (ug r1 1) (fun x11 => dI .i64 (ug r1 2) (fun x12 => dI .i64 (ug r1 3) (fun x13 => dI .i64 (ug r1 4) (fun x14 => dI .i64 (ug r1 5) (fun x15 => dI .i64 (ug r1 6) (fun x16 => dI .i64 (ug r1 7) (fun x17 => dI .i64 (ug r1 8) (fun x18 => dI .i64 (ug r1 9) (fun x19 => dI .i64 (ug r1 10) (fun x20 => dI .i64 (ug r1 11) (fun x21 => dI .i64 (ug r1 12) (fun x22 => dI .i64 (ug r1 13) (fun x23 => dI .i64 (ug r1 14) (fun x24 => dI .i64 (ug r1 15) (fun x25 => dI .i64 (ug r1 16) (fun x26 => dL 2 (ug r1 17) (fun l6 => dL 2 (ug r1 18) (fun l7 => dI .i64 (ug r1 19) (fun x27 => dI .i64 (ug r1 20) (fun x28 => dI .i64 (ug r1 21) (fun x29 => dI .i64 (ug r1 22) (fun x30 => PRun Tryz.prog 14 (Mx5 x3 l1 x4 l2 x5 x6 x7 x8 l4 x9 l5 a1 X1 X2 l3) [.a [.r 0 0, .r 1 0, .r 2 0, .r 3 0, .r 4 0], .i x1, .a [.i x10, .i x11, .i x12, .i x13, .i x14, .i x15, .i x16, .i x17, .i x18, .i x19, .i x20, .i x21, .i x22, .i x23, .i x24, .i x25, .i x26, .l 2 l6, .l 2 l7, .i x27, .i x28, .i x29, .i x30]] (post [.I, .I, .I] pMx (fun x31 x32 x33 x34 l8 x35 l9 x36 x37 x38 x39 l10 l11 x40 l12 a2 X3 X4 => (I1 x31 (z13 .i64 (x2 + 1)) x34 l8 x35 l9 x36 x37 x38 x39 l10 l11 x40 l12 a2 X3 X4 ∧ f1 x31 (z13 .i64 (x2 + 1)) x34 l8 x35 l9 x36 x37 x38 x39 l10 l11 x40 l12 a2 X3 X4 < f1 x1 x2 x3 l1 x4 l2 x5 x6 x7 x8 l3 l4 x9 l5 a1 X1 X2 : Prop))))))))))))))))))))))))))) else PRun Tryz.prog 17 (Mx5 x3 l1 x4 l2 x5 x6 x7 x8 l4 x9 l5 a1 X1 X2 l3) [.r 0 0] (post [.L 19] pMx (fun l13 x41 l14 x42 l15 x43 x44 x45 x46 l16 l17 x47 l18 a3 X5 X6 => ∃ (I2 : Int → Int → Int → List (List U) → Int → List (List U) → Int → Int → Int → Int → List (List U) → List (List U) → Int → List (List U) → List Int → Ob → Ob → Prop) (f2 : Int → Int → Int → List (List U) → Int → List (List U) → Int → Int → Int → Int → List (List U) → List (List U) → Int → List (List U) → List Int → Ob → Ob → Nat), I2 x1 0 x41 l14 x42 l15 x43 x44 x45 x46 l16 l17 x47 l18 a3 X5 X6 ∧ (∀ x48 : Int, ∀ x49 : Int, ∀ x50 : Int, ∀ l19 : List (List U), ∀ x51 : Int, ∀ l20 : List (List U), ∀ x52 : Int, ∀ x53 : Int, ∀ x54 : Int, ∀ x55 : Int, ∀ l21 : List (List U), ∀ l22 : List (List U), ∀ x56 : Int, ∀ l23 : List (List U), ∀ a4 : List Int, ∀ X7 : Ob, ∀ X8 : Ob, I2 x48 x49 x50 l19 x51 l20 x52 x53 x54 x55 l21 l22 x56 l23 a4 X7 X8 → (bif decide (x49 < 8) then PRun Tryz.prog 14 (Mx5 x50 l19 x51 l20 x52 x53 x54 x55 l22 x56 l23 a4 X7 X8 l21) [.a [.r 0 0, .r 1 0, .r 2 0, .r 3 0, .r 4 0], .i x48, .a [.i 0, .i 0, .i 255, .i 0, .i 0, .i 0, .i 0, .i 0, .i 0, .i 0, .i 0, .i 0, .i 0, .i 0, .i 0, .i 0, .i 0, .l 2 [], .l 2 [], .i 0, .i 0, .i 0, .i 0]] (post [.I, .I, .I] pMx (fun x57 x58 x59 x60 l24 x61 l25 x62 x63 x64 x65 l26 l27 x66 l28 a5 X9 X10 => (I2 x57 (z13 .i64 (x49 + 1)) x60 l24 x61 l25 x62 x63 x64 x65 l26 l27 x66 l28 a5 X9 X10 ∧ f2 x57 (z13 .i64 (x49 + 1)) x60 l24 x61 l25 x62 x63 x64 x65 l26 l27 x66 l28 a5 X9 X10 < f2 x48 x49 x50 l19 x51 l20 x52 x53 x54 x55 l21 l22 x56 l23 a4 X7 X8 : Prop))) else PRun Tryz.prog 17 (Mx5 x50 l19 x51 l20 x52 x53 x54 x55 l22 x56 l23 a4 X7 X8 l21) [.r 0 0] (post [.L 19] pMx (fun l29 x67 l30 x68 l31 x69 x70 x71 x72 l32 l33 x73 l34 a6 X11 X12 => (bif (z15 l29 : Int) != (z15 l13 : Int) then Q (.u (.b false)) [] else ∃ (I3 : Int → Ob → Prop) (f3 : Int → Ob → Nat), I3 0 X12 ∧ (∀ x74 : Int, ∀ X13 : Ob, I3 x74 X13 → (bif decide (x74 < (z15 l29 : Int)) then PRun Tryz.prog 18 [.o X13] [.r 0 0, .i 2, .i (z13 .i64 (x74 + 1))] (post [.agg [.i .i64, .i .i64, .i .i64, .i .i64], .B] [.A] (fun x75 x76 x77 x78 b3 X14 => (elL l29 x74 (fun r2 => dDx r2 (fun x79 x80 x81 x82 x83 x84 x85 x86 x87 x88 x89 x90 x91 l35 l36 x92 x93 x94 x95 => PRun Tryz.prog 19 [] [aDx x79 x80 x81 x82 x83 x84 x85 x86 x87 x88 x89 x90 x91 l35 l36 x92 x93 x94 x95] (post [.B] [] (fun b4 => (bif !(b3 == b4) then Q (.u (.b false)) [] else (bif b3 then elL l29 x74 (fun r3 => dI .i64 (ug r3 15) (fun x96 => (bif x78 != x96 then Q (.u (.b false)) [] else elL l13 x74 (fun r4 => dDx r4 (fun x97 x98 x99 x100 x101 x102 x103 x104 x105 x106 x107 x108 x109 l37 l38 x110 x111 x112 x113 => PRun Tryz.prog 19 [] [aDx x97 x98 x99 x100 x101 x102 x103 x104 x105 x106 x107 x108 x109 l37 l38 x110 x111 x112 x113] (post [.B] [] (fun b5 => (bif !b5 then elL l13 x74 (fun r5 => dI .i64 (ug r5 16) (fun x114 => (bif decide (x114 ≤ x48) then (bif !b3 then Q (.u (.b false)) [] else elL l13 x74 (fun r6 => dI .i64 (ug r6 16) (fun x115 => (bif x75 != x115 then Q (.u (.b false)) [] else elL l13 x74 (fun r7 => dDx r7 (fun x116 x117 x118 x119 x120 x121 x122 x123 x124 x125 x126 x127 x128 l39 l40 x129 x130 x131 x132 => PRun Tryz.prog 19 [] [aDx x116 x117 x118 x119 x120 x121 x122 x123 x124 x125 x126 x127 x128 l39 l40 x129 x130 x131 x132] (post [.B] [] (fun b6 => (bif b6 then elL l13 x74 (fun r8 => dDx r8 (fun x133 x134 x135 x136 x137 x138 x139 x140 x141 x142 x143 x144 x145 l41 l42 x146 x147 x148 x149 => elL l29 x74 (fun r9 => dDx r9 (fun x150 x151 x152 x153 x154 x155 x156 x157 x158 x159 x160 x161 x162 l43 l44 x163 x164 x165 x166 => PRun Tryz.prog 20 [] [aDx x133 x134 x135 x136 x137 x138 x139 x140 x141 x142 x143 x144 x145 l41 l42 x146 x147 x148 x149, aDx x150 x151 x152 x153 x154 x155 x156 x157 x158 x159 x160 x161 x162 l43 l44 x163 x164 x165 x166] (post [.B] [] (fun b7 => (bif !b7 then Q (.u (.b false)) [] else I3 (z13 .i64 (x74 + 1)) X14 ∧ f3 (z13 .i64 (x74 + 1)) X14 < f3 x74 X13 : Prop))))))) else I3 (z13 .i64 (x74 + 1)) X14 ∧ f3 (z13 .i64 (x74 + 1)) X14 < f3 x74 X13 : Prop))))))))) else elL l13 x74 (fun r10 => dDx r10 (fun x167 x168 x169 x170 x171 x172 x173 x174 x175 x176 x177 x178 x179 l45 l46 x180 x181 x182 x183 => PRun Tryz.prog 19 [] [aDx x167 x168 x169 x170 x171 x172 x173 x174 x175 x176 x177 x178 x179 l45 l46 x180 x181 x182 x183] (post [.B] [] (fun b8 => (bif b8 then elL l13 x74 (fun r11 => dDx r11 (fun x184 x185 x186 x187 x188 x189 x190 x191 x192 x193 x194 x195 x196 l47 l48 x197 x198 x199 x200 => elL l29 x74 (fun r12 => dDx r12 (fun x201 x202 x203 x204 x205 x206 x207 x208 x209 x210 x211 x212 x213 l49 l50 x214 x215 x216 x217 => PRun Tryz.prog 20 [] [aDx x184 x185 x186 x187 x188 x189 x190 x191 x192 x193 x194 x195 x196 l47 l48 x197 x198 x199 x200, aDx x201 x202 x203 x204 x205 x206 x207 x208 x209 x210 x211 x212 x213 l49 l50 x214 x215 x216 x217] (post [.B] [] (fun b9 => (bif !b9 then Q (.u (.b false)) [] else I3 (z13 .i64 (x74 + 1)) X14 ∧ f3 (z13 .i64 (x74 + 1)) X14 < f3 x74 X13 : Prop))))))) else I3 (z13 .i64 (x74 + 1)) X14 ∧ f3 (z13 .i64 (x74 + 1)) X14 < f3 x74 X13 : Prop)))))))) else elL l13 x74 (fun r13 => dDx r13 (fun x218 x219 x220 x221 x222 x223 x224 x225 x226 x227 x228 x229 x230 l51 l52 x231 x232 x233 x234 => PRun Tryz.prog 19 [] [aDx x218 x219 x220 x221 x222 x223 x224 x225 x226 x227 x228 x229 x230 l51 l52 x231 x232 x233 x234] (post [.B] [] (fun b10 => (bif b10 then elL l13 x74 (fun r14 => dDx r14 (fun x235 x236 x237 x238 x239 x240 x241 x242 x243 x244 x245 x246 x247 l53 l54 x248 x249 x250 x251 => elL l29 x74 (fun r15 => dDx r15 (fun x252 x253 x254 x255 x256 x257 x258 x259 x260 x261 x262 x263 x264 l55 l56 x265 x266 x267 x268 => PRun Tryz.prog 20 [] [aDx x235 x236 x237 x238 x239 x240 x241 x242 x243 x244 x245 x246 x247 l53 l54 x248 x249 x250 x251, aDx x252 x253 x254 x255 x256 x257 x258 x259 x260 x261 x262 x263 x264 l55 l56 x265 x266 x267 x268] (post [.B] [] (fun b11 => (bif !b11 then Q (.u (.b false)) [] else I3 (z13 .i64 (x74 + 1)) X14 ∧ f3 (z13 .i64 (x74 + 1)) X14 < f3 x74 X13 : Prop))))))) else I3 (z13 .i64 (x74 + 1)) X14 ∧ f3 (z13 .i64 (x74 + 1)) X14 < f3 x74 X13 : Prop))))) : Prop)))))))) else elL l13 x74 (fun r16 => dDx r16 (fun x269 x270 x271 x272 x273 x274 x275 x276 x277 x278 x279 x280 x281 l57 l58 x282 x283 x284 x285 => PRun Tryz.prog 19 [] [aDx x269 x270 x271 x272 x273 x274 x275 x276 x277 x278 x279 x280 x281 l57 l58 x282 x283 x284 x285] (post [.B] [] (fun b12 => (bif !b12 then elL l13 x74 (fun r17 => dI .i64 (ug r17 16) (fun x286 => (bif decide (x286 ≤ x48) then (bif !b3 then Q (.u (.b false)) [] else elL l13 x74 (fun r18 => dI .i64 (ug r18 16) (fun x287 => (bif x75 != x287 then Q (.u (.b false)) [] else elL l13 x74 (fun r19 => dDx r19 (fun x288 x289 x290 x291 x292 x293 x294 x295 x296 x297 x298 x299 x300 l59 l60 x301 x302 x303 x304 => PRun Tryz.prog 19 [] [aDx x288 x289 x290 x291 x292 x293 x294 x295 x296 x297 x298 x299 x300 l59 l60 x301 x302 x303 x304] (post [.B] [] (fun b13 => (bif b13 then elL l13 x74 (fun r20 => dDx r20 (fun x305 x306 x307 x308 x309 x310 x311 x312 x313 x314 x315 x316 x317 l61 l62 x318 x319 x320 x321 => elL l29 x74 (fun r21 => dDx r21 (fun x322 x323 x324 x325 x326 x327 x328 x329 x330 x331 x332 x333 x334 l63 l64 x335 x336 x337 x338 => PRun Tryz.prog 20 [] [aDx x305 x306 x307 x308 x309 x310 x311 x312 x313 x314 x315 x316 x317 l61 l62 x318 x319 x320 x321, aDx x322 x323 x324 x325 x326 x327 x328 x329 x330 x331 x332 x333 x334 l63 l64 x335 x336 x337 x338] (post [.B] [] (fun b14 => (bif !b14 then Q (.u (.b false)) [] else I3 (z13 .i64 (x74 + 1)) X14 ∧ f3 (z13 .i64 (x74 + 1)) X14 < f3 x74 X13 : Prop))))))) else I3 (z13 .i64 (x74 + 1)) X14 ∧ f3 (z13 .i64 (x74 + 1)) X14 < f3 x74 X13 : Prop))))))))) else elL l13 x74 (fun r22 => dDx r22 (fun x339 x340 x341 x342 x343 x344 x345 x346 x347 x348 x349 x350 x351 l65 l66 x352 x353 x354 x355 => PRun Tryz.prog 19 [] [aDx x339 x340 x341 x342 x343 x344 x345 x346 x347 x348 x349 x350 x351 l65 l66 x352 x353 x354 x355] (post [.B] [] (fun b15 => (bif b15 then elL l13 x74 (fun r23 => dDx r23 (fun x356 x357 x358 x359 x360 x361 x362 x363 x364 x365 x366 x367 x368 l67 l68 x369 x370 x371 x372 => elL l29 x74 (fun r24 => dDx r24 (fun x373 x374 x375 x376 x377 x378 x379 x380 x381 x382 x383 x384 x385 l69 l70 x386 x387 x388 x389 => PRun Tryz.prog 20 [] [aDx x356 x357 x358 x359 x360 x361 x362 x363 x364 x365 x366 x367 x368 l67 l68 x369 x370 x371 x372, aDx x373 x374 x375 x376 x377 x378 x379 x380 x381 x382 x383 x384 x385 l69 l70 x386 x387 x388 x389] (post [.B] [] (fun b16 => (bif !b16 then Q (.u (.b false)) [] else I3 (z13 .i64 (x74 + 1)) X14 ∧ f3 (z13 .i64 (x74 + 1)) X14 < f3 x74 X13 : Prop))))))) else I3 (z13 .i64 (x74 + 1)) X14 ∧ f3 (z13 .i64 (x74 + 1)) X14 < f3 x74 X13 : Prop)))))))) else elL l13 x74 (fun r25 => dDx r25 (fun x390 x391 x392 x393 x394 x395 x396 x397 x398 x399 x400 x401 x402 l71 l72 x403 x404 x405 x406 => PRun Tryz.prog 19 [] [aDx x390 x391 x392 x393 x394 x395 x396 x397 x398 x399 x400 x401 x402 l71 l72 x403 x404 x405 x406] (post [.B] [] (fun b17 => (bif b17 then elL l13 x74 (fun r26 => dDx r26 (fun x407 x408 x409 x410 x411 x412 x413 x414 x415 x416 x417 x418 x419 l73 l74 x420 x421 x422 x423 => elL l29 x74 (fun r27 => dDx r27 (fun x424 x425 x426 x427 x428 x429 x430 x431 x432 x433 x434 x435 x436 l75 l76 x437 x438 x439 x440 => PRun Tryz.prog 20 [] [aDx x407 x408 x409 x410 x411 x412 x413 x414 x415 x416 x417 x418 x419 l73 l74 x420 x421 x422 x423, aDx x424 x425 x426 x427 x428 x429 x430 x431 x432 x433 x434 x435 x436 l75 l76 x437 x438 x439 x440] (post [.B] [] (fun b18 => (bif !b18 then Q (.u (.b false)) [] else I3 (z13 .i64 (x74 + 1)) X14 ∧ f3 (z13 .i64 (x74 + 1)) X14 < f3 x74 X13 : Prop))))))) else I3 (z13 .i64 (x74 + 1)) X14 ∧ f3 (z13 .i64 (x74 + 1)) X14 < f3 x74 X13 : Prop))))) : Prop)))))) : Prop))))) : Prop))) else PRun Tryz.prog 15 [] [] (post [.B] [] (fun b19 => (Q (.u (.b b19)) [] : Prop))))) : Prop))))))))) : Prop)))) : PRun Tryz.prog 4 [] [.i which, .l 23 l] Q :=
 zal mixTn4 Tryz.func4 (by kernel_rfl) (H := ⟨[((4, 6, 7), ⟨[(7, .I), (8, .I)], [(0, .c [.i .i64, .l 7, .i .i64, .l 4, .i .i64, .i .i64, .i .i64, .i .i64, .r 1 0, .r 2 0, .r 3 0, .r 4 0, .ow 33 19]), (1, .c [.l 5, .i .i64]), (2, .c [.l 5, .n 33]), (3, .A), (4, .A)]⟩), ((4, 12, 9), ⟨[(7, .I), (13, .I)], [(0, .c [.i .i64, .l 7, .i .i64, .l 4, .i .i64, .i .i64, .i .i64, .i .i64, .r 1 0, .r 2 0, .r 3 0, .r 4 0, .ow 33 19]), (1, .c [.l 5, .i .i64]), (2, .c [.l 5, .n 33]), (3, .A), (4, .A)]⟩), ((4, 20, 11), ⟨[(18, .I)], [(4, .A)]⟩)], [], [], [], [], false, 64, KN.no, false, spBeg⟩) (n := 2) (by kernel_rfl) hh
end
section
set_option maxRecDepth 1000000
variable {Q : V → Mem → Prop}
theorem zzn {C : Ct} {p : Tb} {pn : Int} {b : Tb} {G L : Ob} {ds : List Dl} {r : List (List U)} {F : List (List U) → FM} : post [.L 19] patM F (.l 19 r) (M6 C p pn b G L ds) = F r C.c0 C.c1 C.c2 C.c3 C.c4 200 1 500 (ds.map zcf) (p.map eT) pn (b.map eT) (zfw b) G L := rfl
theorem znv {F : Int → Int → Int → Int → Bool → Ob → Prop} {x : Mk} {c : Bool} {X : Ob} : post [.agg [.i .i64, .i .i64, .i .i64, .i .i64], .B] [.A] F (.t [mV x, .u (.b c)]) [.o X] = F x.1 x.2.1 x.2.2.1 x.2.2.2 c X := rfl
abbrev s0 : Wd := ⟨p0, b0, [], 1, [], []⟩
theorem srt_of {l : Tb} (h : (l.map fun r => (r.1.a, r.1.b, r.1.c, r.1.d)).Pairwise (fun x y => x.1 < y.1 ∨ (x.1 = y.1 ∧ (x.2.1 < y.2.1 ∨ (x.2.1 = y.2.1 ∧ (x.2.2.1 < y.2.2.1 ∨ (x.2.2.1 = y.2.2.1 ∧ x.2.2.2 < y.2.2.2))))))) : Srt l := by
 rw [z6c] at h
 exact h
theorem p0_inv : PInv p0 562 where
 srt := srt_of (by decide)
 key := by decide
 sum := by decide
 top := by decide
theorem b0_inv : BInv b0 where
 srt := srt_of (by decide)
 key := by decide
 top d := by
  unfold tyQ b0
  simp only [zfv]
  repeat' split
  all_goals omega
theorem s0_W : WC 0 s0 where
 pinv := p0_inv
 plen := by decide
 binv := b0_inv
 blen := by decide
 nx := by decide
 ids := .nil
 lt t ht := by simp at ht
 dok i d h := by simp at h
 dlen := by decide
 tim := .refl _
 mlen := rfl
 mark i d h := by simp at h
 mid m h := by simp at h
structure Rl (was s : Wd) : Prop where
 len : s.ds.length = was.ds.length
 all : ∀ (i : Nat) (d : Dl), was.ds[i]? = some d → s.ds[i]? = some d ∨ (opn d = true ∧ s.ds[i]? = some (zph d (zb8 d)) ∧ ofM s.Lg 2 ((i : Int) + 1) = some (d.due, 2, (i : Int) + 1, zb8 d))
theorem Rl.fir {n : Nat} {was s1 s2 : Wd} {i : Nat} {d1 : Dl} (hW : WC n s1) (h : Rl was s1) (F : Fir s1 i d1 s2) : Rl was s2 where
 len := by rw [F.ds, z3n]; exact h.len
 all j d hd := by
  have hlt := (z2a.1 F.hd).1
  have hid := (hW.dok i d1 F.hd).2
  rw [F.ds, F.log, zuw, z4x]
  by_cases e : i = j
  · subst e
    rw [if_pos rfl, if_pos hlt]
    rcases h.all i d hd with h1 | ⟨h1, h2, -⟩
    · rw [F.hd] at h1
      cases h1
      refine .inr ⟨F.opn, rfl, ?_⟩
      have hm := hW.mark i d1 F.hd
      rw [if_pos F.opn] at hm
      rw [hm]
      simp only
      rw [if_pos ⟨trivial, hid⟩, hid]
    · rw [F.hd] at h2
      cases h2
      have := (zi6 (zj9 h1).1).2
      rw [F.opn] at this
      cases this
  · rw [if_neg e]
    rcases h.all j d hd with h1 | ⟨h1, h2, h3⟩
    · exact .inl h1
    · exact .inr ⟨h1, h2, by rw [h3]⟩
theorem zlt (which : Int) (L : List Ac) : PRun Tryz.prog 4 [] [.i which, .l 23 (L.map eA)] fun x m => x = .u (.b true) ∧ m = [] := by
 have hlen : ((L.map eA).length : Int) = (L.length : Int) := by rw [z2d]
 have aw : PRun Tryz.prog 15 [] [] (post [.B] [] (fun b => ((fun (x : V) (m : Mem) => x = V.u (.b true) ∧ m = []) (.u (.b b)) [] : Prop))) := aw15_run.mono (by rintro _ _ ⟨rfl, rfl⟩; exact ⟨rfl, rfl⟩)
 refine S4 (few_S (by decide) fun b hb => ?_)
 rw [za5]
 cases b with
 | false => exact aw
 | true =>
 obtain ⟨hL, hall⟩ := hb rfl
 rw [z3b, cond_false]
 refine ⟨fun now x a1 a2 a3 a4 a5 a6 a7 a8 r1 r2 x8 r3 t X1 X2 => ∃ (k : Nat) (s : Wd), x = (k : Int) ∧ (cW which).c0 = a1 ∧ (cW which).c1 = a2 ∧ (cW which).c2 = a3 ∧ (cW which).c3 = a4 ∧ (cW which).c4 = a5 ∧ 200 = a6 ∧ 1 = a7 ∧ 500 = a8 ∧ s.ds.map zcf = r1 ∧ s.p.map eT = r2 ∧ 562 = x8 ∧ s.b.map eT = r3 ∧ zfw s.b = t ∧ Ob.of (qS s.T 256 s.next) = X1 ∧ Ob.of (zds s.Lg) = X2 ∧ k ≤ L.length ∧ WC k s ∧ 0 ≤ now ∧ now ≤ 255 * (k : Int) ∧ zej s.Lg ≤ now ∧ ∀ t ∈ s.T, now < t.1,
  fun _ x _ _ _ _ _ _ _ _ _ _ _ _ _ _ _ => (L.length - x).toNat, ⟨0, s0, rfl, rfl, rfl, rfl, rfl, rfl, rfl, rfl, rfl, rfl, rfl, rfl, rfl, rfl, rfl, rfl, z3i _, s0_W, z2y _, by decide, by decide, fun t ht => by simp at ht⟩, ?_⟩
 rintro now _ _ _ _ _ _ _ _ _ _ _ _ _ _ _ _ ⟨k, s, rfl, rfl, rfl, rfl, rfl, rfl, rfl, rfl, rfl, rfl, rfl, rfl, rfl, rfl, rfl, rfl, hk, hW, ht0, ht1, hl, hd⟩
 rw [hlen]
 refine cIf (fun hlt => ?_) fun hge => ?_
 · have hlt : k < L.length := by omega
   have hg := z2c hlt
   have el : ∀ {F : List U → Prop}, elL (L.map eA) (k : Int) F = F (eA L[k]) := fun {F} => zax (by omega) (by rw [z27, z2j, hg]; rfl)
   simp only [el, eA, ug0, ugs, zcy, dL_l]
   have hsh := hall _ (List.getElem_mem hlt)
   refine do_S (C := cW which) (s := s) (d := L[k].d) (n := k) hW (by omega) ht0 ht1 hl hd hsh.1 hsh.2 (I := fun _ => True) trivial (fun _ _ => trivial) (fun _ _ _ _ _ _ _ => trivial) fun now' x e s' hn hn' hW' hl' hd' _ => ?_
   rw [zqb]
   have ek : z13 .i64 ((k : Int) + 1) = ((k + 1 : Nat) : Int) := by rw [w64 (by omega) (by omega)]; omega
   rw [ek]
   exact ⟨⟨k + 1, s', rfl, rfl, rfl, rfl, rfl, rfl, rfl, rfl, rfl, rfl, rfl, rfl, rfl, rfl, rfl, rfl, by omega, hW', by omega, hn', hl', hd'⟩, by first | omega | (dsimp only; omega)⟩
 · have hkL : k ≤ 25 := by omega
   refine z1g hW.sh (by have := hW.dlen; omega) ?_
   rw [zzn]
   refine ⟨fun now x a1 a2 a3 a4 a5 a6 a7 a8 r1 r2 x8 r3 t X1 X2 => ∃ (j : Nat) (s' : Wd), x = (j : Int) ∧ (cW which).c0 = a1 ∧ (cW which).c1 = a2 ∧ (cW which).c2 = a3 ∧ (cW which).c3 = a4 ∧ (cW which).c4 = a5 ∧ 200 = a6 ∧ 1 = a7 ∧ 500 = a8 ∧ s'.ds.map zcf = r1 ∧ s'.p.map eT = r2 ∧ 562 = x8 ∧ s'.b.map eT = r3 ∧ zfw s'.b = t ∧ Ob.of (qS s'.T 256 s'.next) = X1 ∧ Ob.of (zds s'.Lg) = X2 ∧ j ≤ 8 ∧ WC (k + j) s' ∧ 0 ≤ now ∧ now ≤ 255 * ((k + j : Nat) : Int) ∧ zej s'.Lg ≤ now ∧ (∀ t ∈ s'.T, now < t.1) ∧ Rl s s',
    fun _ x _ _ _ _ _ _ _ _ _ _ _ _ _ _ _ => (8 - x).toNat, ⟨0, s, rfl, rfl, rfl, rfl, rfl, rfl, rfl, rfl, rfl, rfl, rfl, rfl, rfl, rfl, rfl, rfl, z3i _, hW, ht0, ht1, hl, hd, rfl, fun i d h => .inl h⟩, ?_⟩
   rintro now2 _ _ _ _ _ _ _ _ _ _ _ _ _ _ _ _ ⟨j, s', rfl, rfl, rfl, rfl, rfl, rfl, rfl, rfl, rfl, rfl, rfl, rfl, rfl, rfl, rfl, rfl, hj, hW', ht0', ht1', hl', hd', hR⟩
   refine cIf (fun hlt => ?_) fun hge => ?_
   · refine do_S (C := cW which) (s := s') (d := dZ) (n := k + j) (kind := 0) (id := 0) (an := 255) (into := 0) hW' (by omega) ht0' ht1' hl' hd' (by decide) (by decide) (I := Rl s) hR (fun s2 h => by cases h <;> omega) (fun s1 s2 i d1 hW1 hI F => Rl.fir hW1 hI F) fun now' x e s2 hn hn' hW2 hl2 hd2 hR2 => ?_
     rw [zqb]
     have ej : z13 .i64 ((j : Int) + 1) = ((j + 1 : Nat) : Int) := by rw [w64 (by omega) (by omega)]; omega
     rw [ej]
     exact ⟨⟨j + 1, s2, rfl, rfl, rfl, rfl, rfl, rfl, rfl, rfl, rfl, rfl, rfl, rfl, rfl, rfl, rfl, rfl, by omega, hW2, by omega, hn', hl2, hd2, hR2⟩, by first | omega | (dsimp only; omega)⟩
   · refine z1g hW'.sh (by have := hW'.dlen; omega) ?_
     rw [zzn]
     have hll : ((s'.ds.map zcf).length : Int) = ((s.ds.map zcf).length : Int) := by rw [z2d, z2d, hR.len]
     refine cNe (fun h => absurd hll h) fun _ => ?_
     have hdl := hW'.dlen
     have hlen2 : ((s'.ds.map zcf).length : Int) = (s'.ds.length : Int) := by rw [z2d]
     refine ⟨fun x X => ∃ i : Nat, x = (i : Int) ∧ Ob.of (zds s'.Lg) = X, fun x _ => (s'.ds.length - x).toNat, ⟨0, rfl, rfl⟩, ?_⟩
     rintro _ _ ⟨i, rfl, rfl⟩
     rw [hlen2]
     refine cIf (fun hlt => ?_) fun _ => aw
     have hlt : i < s'.ds.length := by omega
     obtain ⟨d1, hg1⟩ : ∃ d1, s'.ds[i]? = some d1 := ⟨_, z2c hlt⟩
     obtain ⟨d0, hg0⟩ : ∃ d0, s.ds[i]? = some d0 := ⟨_, z2c (show i < s.ds.length by have := hR.len; omega)⟩
     have el1 : ∀ {F : List U → Prop}, elL (s'.ds.map zcf) (i : Int) F = F (zcf d1) := fun {F} => zax (by omega) (by rw [z27, z2j, hg1]; rfl)
     have el0 : ∀ {F : List U → Prop}, elL (s.ds.map zcf) (i : Int) F = F (zcf d0) := fun {F} => zax (by omega) (by rw [z27, z2j, hg0]; rfl)
     have ei : z13 .i64 ((i : Int) + 1) = ((i + 1 : Nat) : Int) := by rw [w64 (by omega) (by omega)]; omega
     have hsh := hW.sh d0 (z2x hg0)
     have hmk := hW'.mark i d1 hg1
     have hrl := hR.all i d0 hg0
     rw [hg1] at hrl
     rw [ei]
     refine of_S ?_
     rw [show ((i + 1 : Nat) : Int) = (i : Int) + 1 by omega] at *
     unfold ofR
     rcases hrl with h1 | ⟨ho, h1, hm⟩
     · cases h1
       cases ho : opn d1 with
       | true =>
         rw [if_pos ho] at hmk
         rw [hmk]
         simp only
         rw [show noMk = mV (0, 0, 0, 0) from rfl, znv]
         simp only [el1, el0, dDx, zcf, ug0, ugs, zcy, dL_l]
         have hdue : ¬ d1.due ≤ now2 := fun hle => by
          obtain ⟨t, h2, h3⟩ := hW'.has hg1 ho
          have := hd' t h2
          have := congrArg Prod.fst h3
          simp only at this
          omega
         refine zfs (d := d1) ?_
         rw [za5, ho]
         simp only [z3b, beq_self_eq_true, cond_false]
         refine zfs (d := d1) ?_
         rw [za5, ho]
         simp only [z3b, z37, cond_true]
         refine cIf (fun h => absurd h hdue) fun _ => ?_
         refine zfs (d := d1) ?_
         rw [za5, ho]
         simp only [z3b, cond_false]
         exact ⟨⟨i + 1, by omega, by first | trivial | rfl⟩, by omega⟩
       | false =>
         rw [if_neg (by simp [ho])] at hmk
         obtain ⟨a, hm⟩ := hmk
         rw [hm]
         simp only
         rw [znv]
         simp only [el1, el0, dDx, zcf, ug0, ugs, zcy, dL_l]
         refine zfs (d := d1) ?_
         rw [za5, ho]
         simp only [z3b, z37, beq_self_eq_true, cond_false, cond_true, bne_self_eq_false]
         refine zfs (d := d1) ?_
         rw [za5, ho]
         simp only [z3b, z37, cond_false]
         refine zfs (d := d1) ?_
         rw [za5, ho]
         simp only [z37, cond_true]
         refine sameD_S (d := d1) hsh ?_
         rw [za5]
         simp only [z3b, cond_false]
         exact ⟨⟨i + 1, by omega, by first | trivial | rfl⟩, by omega⟩
     · cases h1
       rw [hm]
       simp only
       rw [znv]
       simp only [el1, el0, dDx, zcf, ug0, ugs, zcy, dL_l]
       have hov : opn (zph d0 (zb8 d0)) = false := (zi6 (zj9 ho).1).2
       have e3 : (zph d0 (zb8 d0)).st = zb8 d0 := rfl
       refine zfs (d := zph d0 (zb8 d0)) ?_
       rw [za5, hov, e3]
       simp only [z3b, z37, beq_self_eq_true, cond_false, cond_true, bne_self_eq_false]
       refine zfs (d := d0) ?_
       rw [za5, ho]
       simp only [z3b, z37, cond_true, cond_false]
       refine cIf (fun _ => ?_) fun _ => ?_
       · refine zfs (d := d0) ?_
         rw [za5, ho]
         simp only [z3b, cond_false]
         exact ⟨⟨i + 1, by omega, by first | trivial | rfl⟩, by omega⟩
       · refine zfs (d := d0) ?_
         rw [za5, ho]
         simp only [z3b, cond_false]
         exact ⟨⟨i + 1, by omega, by first | trivial | rfl⟩, by omega⟩
end
section
set_option maxRecDepth 1000000
theorem zj6 {α : Type} {f : α → List U} : ∀ {rows : List (List U)}, (∀ r ∈ rows, ∃ x, r = f x) → ∃ l : List α, rows = l.map f
 | [], _ => ⟨[], rfl⟩
 | r :: rows, h => by
   obtain ⟨x, rfl⟩ := h r z2r
   obtain ⟨l, rfl⟩ := zj6 fun s hs => h s (z2k _ hs)
   exact ⟨x :: l, rfl⟩
theorem zt7 {rows : List (List U)} (h : ∀ r ∈ rows, ShU (.i .i64 (.i .i64 .nil)) r) : ∃ l : List Stk, rows = l.map eS :=
 zj6 fun r hr => by
  obtain ⟨a, _, rfl, -, b, _, rfl, -, rfl⟩ := h r hr
  exact ⟨(a, b), rfl⟩
abbrev dsA : Ds := (.i .i64 (.i .i64 (.i .i64 (.i .i64 (.i .i64 (.i .i64 (.i .i64 (.i .i64 (.i .i64 (.i .i64 (.i .i64 (.i .i64 (.i .i64 (.i .i64 (.i .i64 (.i .i64 (.i .i64 (.l 2 (.i .i64 (.i .i64 .nil)) (.l 2 (.i .i64 (.i .i64 .nil)) (.i .i64 (.i .i64 (.i .i64 (.i .i64 .nil)))))))))))))))))))))))
theorem act_conv {rows : List (List U)} (h : ∀ r ∈ rows, ShU dsA r) : ∃ l : List Ac, rows = l.map eA :=
 zj6 fun r hr => by
  obtain ⟨kind, _, rfl, -, id, _, rfl, -, an, _, rfl, -, into, _, rfl, -, d1, _, rfl, -, d2, _, rfl, -, d3, _, rfl, -, d4, _, rfl, -, d5, _, rfl, -, d6, _, rfl, -, d7, _, rfl, -, d8, _, rfl, -, d9, _, rfl, -, d10, _, rfl, -, d11, _, rfl, -, d12, _, rfl, -, d13, _, rfl, -, g, _, rfl, -, hg, w, _, rfl, -, hw, s1, _, rfl, -, s2, _, rfl, -, s3, _, rfl, -, s4, _, rfl, -, rfl⟩ := h r hr
  obtain ⟨g', rfl⟩ := zt7 hg
  obtain ⟨w', rfl⟩ := zt7 hw
  exact ⟨⟨kind, id, an, into, ⟨d1, d2, d3, d4, d5, d6, d7, d8, d9, d10, d11, d12, d13, g', w', s1, s2, s3, s4⟩⟩, rfl⟩
theorem zk6 {x0 : U} {rows1 : List (List U)} (sh0 : ShU (.i .i64 .nil) [x0]) (hl1 : rows1.length ≤ maxLen) (hs1 : ∀ r ∈ rows1, ShU dsA r) : PRun Tryz.prog 4 [] [.u x0, .l 23 rows1] fun v _ => v = .u (.b true) := by
 obtain ⟨n, _, h, -, -⟩ := sh0
 cases h
 obtain ⟨L, rfl⟩ := act_conv hs1
 exact (zlt n L).mono fun _ _ h => h.1
end
section
open Go.ChangeShapes Go.WideShapes Go.ChangeAt Go.RowKit
set_option maxRecDepth 100000 in
theorem zhr (os : Os) (started : os.Started) (H : Type) (enc : TypeId × Value → H) :
 ReturnsInHanded {} Tryz.checked os 4 .any (Rows.marketEndsSpec.pre6 enc Tryz.prog Tryz.f4 Rows.marketEndsRow.domain false) (Rows.marketEndsSpec.post enc Tryz.prog Tryz.f4 false true false false) := by
 refine returnsInHanded_of_change (C := Tryz.checked) Tryz.own started (by kernel_rfl) Tryz.func4
  (ChangeSpec.witness6 (enc := enc) (C := Tryz.checked) false ⟨#[], #[.int .i64 0, .slice none 0 0], []⟩ 8 (by kernel_rfl) (by kernel_rfl) (by kernel_rfl) (by kernel_rfl)) ?_
 intro W base args ds gs before hval0 hW hcnd _
 have hval : ∀ (j : Nat) t v, Tryz.f4.params[j]? = some t → args[j]? = some v → Value.okWide Tryz.prog W .any base t v := hval0
 have hW' := hW
 obtain ⟨p, q, hA0, hV, rfl, hfz, hnd⟩ := hW
 have hA : DataW.TrodAll enc Tryz.prog W 0 (fun _ => true) true Tryz.f4.params.toList args.toList ds p := hA0
 rw [Tryz.params4] at hA hval
 obtain ⟨v0, v1, d0, d1, p0, p1, rfl, rfl, rfl, h0, h1⟩ := trodAll_two hA
 obtain ⟨rfl, rfl⟩ := trodVars_none hV
 obtain ⟨us0, hr0, sh0⟩ := zqg (ds := (.i .i64 .nil)) (by kernel_rfl) h0
 obtain ⟨x0, rfl⟩ : ∃ x, us0 = [x] := by obtain ⟨_, _, rfl, hh⟩ := sh0; obtain rfl : _ = [] := (by first | exact hh | exact hh.2); exact ⟨_, rfl⟩
 have hr0 : Rd (zpi W.heap) v0 x0 := rd_int (hval 0 3 v0 rfl rfl) Tryz.underlying3 hr0
 obtain ⟨us1, hr1, sh1⟩ := zqg (ds := (.l 23 (.i .i64 (.i .i64 (.i .i64 (.i .i64 (.i .i64 (.i .i64 (.i .i64 (.i .i64 (.i .i64 (.i .i64 (.i .i64 (.i .i64 (.i .i64 (.i .i64 (.i .i64 (.i .i64 (.i .i64 (.l 2 (.i .i64 (.i .i64 .nil)) (.l 2 (.i .i64 (.i .i64 .nil)) (.i .i64 (.i .i64 (.i .i64 (.i .i64 .nil))))))))))))))))))))))) .nil)) (by kernel_rfl) h1
 obtain ⟨a1, n1, c1, rfl⟩ := Go.WideShapes.okWide_slice Tryz.underlying49 (hval 1 49 v1 rfl rfl)
 obtain ⟨rows1, _, rfl, hl1, hs1, rfl⟩ := sh1
 clear hA0 hval0
 refine ((zk6 sh0 hl1 hs1 (zpi W.heap) [] [] [] W.heap _ (SAt.all W.heap) (.cons (.u hr0) (.cons (rp_slice hr1) (.nil)))).2 W rfl).mono ?_
 rintro e W' ⟨v, rfl, ⟨D', ρ', chs', x, m', le, M', hv, rfl⟩, hsm⟩
 obtain rfl : v = .bool true := by cases hv with | u h => cases h; rfl
 have hb := belowOf (St.kept le M'.st) hsm
 have hlt0 : ∀ x ∈ p0, x.block < W.heap.size := fun x hx => by simpa using hW'.lt x (by simp [hx])
 have hlt1 : ∀ x ∈ p1, x.block < W.heap.size := fun x hx => by simpa using hW'.lt x (by simp [hx])
 exact ⟨_, rfl, _, _, _, [], _, [], hW', trodAll_mk1 (shut_bool Tryz.underlying4 true), trodAll_mk2 (hb.trod Tryz.laidOut (by kernel_rfl) (of_decide_eq_true (by kernel_rfl)) h0 hlt0) (hb.trod Tryz.laidOut (by kernel_rfl) (of_decide_eq_true (by kernel_rfl)) h1 hlt1), rfl, hb.frame _, fun h => by cases h⟩
theorem zf8 {a b : Bool} (h1 : a = true) (h2 : b = true) : (a && b) = true := by rw [h1, h2]; rfl
theorem zod : (Rows.marketEndsRow.wf (OpenSpec.ofChange Rows.marketEndsSpec)) = true := by kernel_rfl
theorem zoc : (laidOutB Tryz.prog) = true := by kernel_rfl
theorem zob : (mapsRowed Tryz.prog) = true := by kernel_rfl
theorem zoa : (Tryz.f4.params.all (Tryz.prog.readableRec ·)) = true := by kernel_rfl
theorem zn9 : (namedTie Tryz.prog Rows.marketEndsRow.named Rows.marketEndsSpec.vars) = true := by kernel_rfl
theorem zn8 : ((Rows.marketEndsRow.stops == [])) = true := by kernel_rfl
theorem zn7 : ((Tryz.prog.stops == [])) = true := by kernel_rfl
theorem zn6 : ((Rows.marketEndsRow.knobs == [])) = true := by kernel_rfl
theorem zn5 : ((Tryz.prog.stopKnobs == [])) = true := by kernel_rfl
theorem zn4 : ((Rows.marketEndsRow.inPlace == Tryz.prog.inPlace 4)) = true := by kernel_rfl
theorem zls : ((Rows.marketEndsRow.unfollowed == Tryz.prog.unfollowed 4)) = true := by kernel_rfl
theorem zlr : ((Rows.marketEndsRow.recurses == Tryz.prog.recurses 4)) = true := by kernel_rfl
theorem zlq : ((Rows.marketEndsRow.named == Tryz.prog.varsNamed 4)) = true := by kernel_rfl
theorem zlp : ((Rows.marketEndsRow.maps == (Tryz.f4.params.toList ++ Rows.marketEndsSpec.plain.varTypes Tryz.prog).any (Tryz.prog.mapsRec ·))) = true := by kernel_rfl
theorem zlo : ((Rows.marketEndsRow.ifaces == (Tryz.f4.params.toList ++ Rows.marketEndsSpec.plain.varTypes Tryz.prog).any (Tryz.prog.ifacesRec ·))) = true := by kernel_rfl
theorem zln : ((Rows.marketEndsRow.mapsOut == Tryz.prog.mapsAmong Tryz.f4.resultTypes.toList)) = true := by kernel_rfl
theorem zlm : ((Rows.marketEndsRow.loops == (Tryz.f4.params.toList ++ Rows.marketEndsSpec.plain.varTypes Tryz.prog).any (Tryz.prog.loopsFrom ·))) = true := by kernel_rfl
theorem zll : ((Rows.marketEndsRow.wideKeys == (Tryz.f4.params.toList ++ Rows.marketEndsSpec.plain.varTypes Tryz.prog ++ Tryz.f4.resultTypes.toList).any (Tryz.prog.wideKeysFrom ·))) = true := by kernel_rfl
theorem zlk : (Rows.marketEndsSpec.vars.all (Tryz.prog.varReadable ·)) = true := by kernel_rfl
theorem zlj : (Tryz.f4.resultTypes.all (fun t => Tryz.prog.readableRec t && decide (t < Tryz.prog.types.size))) = true := by kernel_rfl
theorem zli : ((Rows.marketEndsRow.ifacesOut == Tryz.f4.resultTypes.toList.any (Tryz.prog.ifacesRec ·))) = true := by kernel_rfl
theorem zlh : ((Rows.marketEndsRow.loopsOut == Tryz.f4.resultTypes.toList.any (Tryz.prog.loopsFrom ·))) = true := by kernel_rfl
theorem zlg : ((Rows.marketEndsRow.plainKeys == Tryz.prog.plainKeys)) = true := by kernel_rfl
theorem zlf : (Rows.marketEndsRow.shortTexts.isNone) = true := by kernel_rfl
theorem zle : (Tryz.prog.stopsHeard) = true := by kernel_rfl
theorem zld : (Tryz.prog.mayEnter) = true := by kernel_rfl
theorem zlc : ((Rows.marketEndsRow.lifted == Tryz.prog.liftsFinal)) = true := by kernel_rfl
theorem zlb : ((Tryz.prog.make == some Rows.marketEndsRow.make)) = true := by kernel_rfl
theorem zla : ((Rows.marketEndsRow.kinds == (if Rows.marketEndsRow.domain.isEmpty then [] else Tryz.f4.params.toList.map fun t => match Tryz.prog.underlying t with | some (.int k) => some k | _ => none))) = true := by kernel_rfl
theorem zk9 : ((Rows.marketEndsRow.pinned == Rows.marketEndsRow.pinnedBy)) = true := by kernel_rfl
theorem zk8 : ((Rows.marketEndsRow.veiled == (Tryz.f4.params.toList ++ Rows.marketEndsSpec.plain.varTypes Tryz.prog ++ Tryz.f4.resultTypes.toList).any (Tryz.prog.veiledRec ·))) = true := by kernel_rfl
theorem zk7 : (Rows.marketEndsRow.veiledFits Tryz.prog Tryz.f4.params.toList (Tryz.f4.params.toList ++ Rows.marketEndsSpec.plain.varTypes Tryz.prog ++ Tryz.f4.resultTypes.toList)) = true := by kernel_rfl
set_option maxRecDepth 100000 in
theorem zhs : joinedFacts Tryz.prog 4 Tryz.f4 Rows.marketEndsSpec Rows.marketEndsRow = true := (zf8 (zf8 (zf8 (zf8 (zf8 (zf8 (zf8 (zf8 (zf8 (zf8 (zf8 (zf8 (zf8 (zf8 (zf8 (zf8 (zf8 (zf8 (zf8 (zf8 (zf8 (zf8 (zf8 (zf8 (zf8 (zf8 (zf8 (zf8 (zf8 (zf8 (zf8 zod zoc) zob) zoa) zn9) zn8) zn7) zn6) zn5) zn4) zls) zlr) zlq) zlp) zlo) zln) zlm) zll) zlk) zlj) zli) zlh) zlg) zlf) zle) zld) zlc) zlb) zla) zk9) zk8) zk7)
theorem marketEnds_holds : Rows.MarketEndsSaid :=
 OpenClaim.holds_of_wide 4 Tryz.f4 rfl rfl rfl rfl rfl rfl rfl ⟨rfl, rfl, rfl, rfl, rfl⟩ rfl rfl rfl rfl rfl (by kernel_rfl) Tryz.func4 zhs
  (of_decide_eq_true (by kernel_rfl)) (by unfold Func.isWrapper; first | (rw [if_pos (by decide +kernel)]; kernel_rfl) | (rw [if_neg (by decide +kernel)]; exact ⟨rfl, rfl⟩))
  (fun os started H enc _ => zhr os started H enc)
end
end Go.Proofs.YtalglagdgabafaaGreat
