/- The row of WorldNobody: whatever it is given it returns true, and what it was given reads as it did. -/
import Derived.Test.YtobdpeelaadkbaaGreatHq6
set_option linter.unusedVariables false
namespace Go.Proofs.YtobdpeelaadkbaaGreat
section
variable {Q : V → Mem → Prop} {c : Cat}
structure Few (c : Cat) : Prop where
 nb : c.blues.length ≤ 20
 ny : c.bays.length ≤ 12
 n : ∀ b ∈ c.blues, b.needs.length ≤ 12
open Classical in
noncomputable def fewB (c : Cat) : Bool := decide (Few c)
open Classical in
theorem fewB_t (h : Few c) : fewB c = true := decide_eq_true h
open Classical in
theorem fewB_f (h : ¬ Few c) : fewB c = false := decide_eq_false h
theorem few2_S (k : Q (.u (.b (fewB c))) []) : PRun Tryz.prog 4 [] [aC c] Q := by
 have fin : (∀ (i : Nat) (b : Bl), (i : Int) < 20 → c.blues[i]? = some b → b.needs.length ≤ 12) → bif decide (((c.blues.map eB).length : Int) ≤ 20) then Q (.u (.b (decide (((c.bays.map eY).length : Int) ≤ 12)))) [] else Q (.u (.b false)) [] := fun h => by
  rw [List.length_map, List.length_map]
  refine cIf (fun h1 => ?_) fun h1 => ?_
  · by_cases h2 : (c.bays.length : Int) ≤ 12
    · rw [decide_eq_true h2]
      rwa [fewB_t ⟨by omega, by omega, fun b hb => by
       obtain ⟨i, hi, rfl⟩ := List.getElem_of_mem hb
       exact h i _ (by omega) (by simp)⟩] at k
    · rw [decide_eq_false h2]
      rwa [fewB_f fun hf => h2 (by have := hf.ny; omega)] at k
  · rwa [fewB_f fun hf => h1 (by have := hf.nb; omega)] at k
 refine S4 ⟨fun x => 0 ≤ x ∧ x ≤ 20 ∧ ∀ (i : Nat) (b : Bl), (i : Int) < x → c.blues[i]? = some b → b.needs.length ≤ 12, fun x => (20 - x).toNat, ⟨by omega, by omega, fun i b h => by omega⟩, ?_⟩
 rintro x ⟨h0, h20, hx⟩
 refine cIf (fun h1 => cIf (fun h2 => ?_) fun h2 => fin fun i b hi hb => hx i b (by omega) hb) fun h1 => fin fun i b hi hb => hx i b (by
  have := (List.getElem?_eq_some_iff.1 hb).1
  rw [List.length_map] at h1
  omega) hb
 rw [List.length_map] at h1
 have hlt : x.toNat < c.blues.length := by omega
 rw [zbf (r := eB c.blues[x.toNat]) h0 (by simp [hlt])]
 simp only [eB, ug0, ugs, dL_l]
 refine cIf (fun h => ?_) fun h => ⟨⟨by rw [w64 (by omega) (by omega)]; omega, by rw [w64 (by omega) (by omega)]; omega, fun i b hi hb => ?_⟩, by rw [w64 (by omega) (by omega)]; omega⟩
 · rw [List.length_map] at h
   rwa [fewB_f fun hf => by have := hf.n _ (List.getElem_mem hlt); omega] at k
 rw [w64 (by omega) (by omega)] at hi
 by_cases he : (i : Int) < x
 · exact hx i b he hb
 · have : i = x.toNat := by omega
   subst this
   rw [List.getElem?_eq_getElem hlt] at hb
   cases hb
   rw [List.length_map] at h
   omega
def fewD (A B : List (List U)) : Bool := decide (A.length ≤ 12) && decide (B.length ≤ 12)
theorem conv_S (r : List U) (h : ShU (.i .i64 (.i .i64 .nil)) r) : ∃ s : Stk, r = eS s ∧ ((-9223372036854775808 ≤ s.1 ∧ s.1 ≤ 9223372036854775807) ∧ (-9223372036854775808 ≤ s.2 ∧ s.2 ≤ 9223372036854775807)) := by
 obtain ⟨n, _, rfl, hw, m, _, rfl, hw2, rfl⟩ := h
 exact ⟨(n, m), rfl, in64_of hw, in64_of hw2⟩
abbrev dsB : Ds := .i .i64 (.i .i64 (.i .i64 (.l 2 (.i .i64 (.i .i64 .nil)) (.i .i64 (.i .i64 (.i .i64 .nil))))))
abbrev dsY : Ds := .i .i64 (.i .i64 (.i .i64 (.i .i64 .nil)))
abbrev dsC : Ds := .i .i64 (.l 7 dsB (.i .i64 (.l 4 dsY (.i .i64 (.i .i64 (.i .i64 (.i .i64 .nil)))))))
theorem conv_B (r : List U) (h : ShU dsB r) : ∃ b : Bl, r = eB b ∧ rng b.needs := by
 obtain ⟨a, _, rfl, -, b, _, rfl, -, c, _, rfl, -, rows, _, rfl, -, hs, d, _, rfl, -, e, _, rfl, -, f, _, rfl, -, rfl⟩ := h
 obtain ⟨l, rfl, hl⟩ := rows_of conv_S hs
 exact ⟨⟨a, b, c, l, d, e, f⟩, rfl, hl⟩
theorem conv_Y (r : List U) (h : ShU dsY r) : ∃ y : Bay, r = eY y ∧ True := by
 obtain ⟨a, _, rfl, -, b, _, rfl, -, c, _, rfl, -, d, _, rfl, -, rfl⟩ := h
 exact ⟨⟨a, b, c, d⟩, rfl, trivial⟩
theorem conv_C (us : List U) (h : ShU dsC us) : ∃ c : Cat, V.a (us.map .u) = aC c ∧ ∀ b ∈ c.blues, rng b.needs := by
 obtain ⟨a, _, rfl, -, rows, _, rfl, -, hs, b, _, rfl, -, rows2, _, rfl, -, hs2, d, _, rfl, -, e, _, rfl, -, f, _, rfl, -, g, _, rfl, -, rfl⟩ := h
 obtain ⟨l, rfl, hl⟩ := rows_of conv_B hs
 obtain ⟨m, rfl, -⟩ := rows_of conv_Y hs2
 exact ⟨⟨a, l, b, m, d, e, f, g⟩, rfl, hl⟩
theorem Few.rg {c : Cat} (f : Few c) (h : ∀ b ∈ c.blues, rng b.needs) : c.Rg :=
 ⟨fun b hb => ⟨h b hb, by have := f.n b hb; omega⟩, by have := f.nb; omega, by have := f.ny; omega⟩
end
section
variable {Q : V → Mem → Prop}
theorem fewA_S {r : List U} {A B : List (List U)} (ha : ug r 44 = some (.l 2 A)) (hb : ug r 45 = some (.l 2 B)) (k : Q (.u (.b (fewD A B))) [.w 42 50 [r]]) : PRun Tryz.prog 5 [.w 42 50 [r]] [.w 0, .i 1] Q := by
 refine S5 ⟨fun x => x = 0 ∨ (x = 1 ∧ A.length ≤ 12 ∧ B.length ≤ 12), fun x => (2 - x).toNat, .inl rfl, ?_⟩
 rintro x (rfl | ⟨rfl, h1, h2⟩)
 · refine cIf (fun _ => cIf (fun _ => ?_) fun h => absurd (by omega) h) fun h => absurd (by simp) h
   have e : elL [r] 0 = fun K : List U → Prop => K r := rfl
   rw [e]
   dsimp only
   rw [ha, dL_l]
   refine ⟨by omega, by simp, cIf (fun h => ?_) fun h1 => ⟨by omega, by simp, ?_⟩⟩
   · have : fewD A B = false := by unfold fewD; rw [decide_eq_false (by omega)]; rfl
     rwa [this] at k
   rw [hb, dL_l]
   refine cIf (fun h => ?_) fun h2 => ⟨.inr ⟨by decide, by omega, by omega⟩, by decide⟩
   have : fewD A B = false := by unfold fewD; rw [decide_eq_false (show ¬ B.length ≤ 12 by omega)]; simp
   rwa [this] at k
 · have : fewD A B = true := by unfold fewD; rw [decide_eq_true h1, decide_eq_true h2]; rfl
   rw [this] at k
   refine cIf (fun h => absurd h (by simp)) fun _ => ?_
   exact k
theorem zkh {us0 : List U} (sh0 : ShU dsC us0) {us1 : List U} (sh1 : ShU (.i .i64 (.i .i64 (.i .i64 (.i .i64 (.i .i64 (.i .i64 (.i .i64 (.i .i64 (.i .i64 (.i .i64 (.i .i64 (.i .i64 (.i .i64 (.i .i64 (.i .i64 (.i .i64 (.i .i64 (.i .i64 (.i .i64 (.i .i64 (.i .i64 (.i .i64 (.i .i64 (.i .i64 (.i .i64 (.i .i64 (.i .i64 (.i .i64 (.i .i64 (.i .i64 (.i .i64 (.i .i64 (.i .i64 (.i .i64 (.i .i64 (.i .i64 (.i .i64 (.i .i64 (.i .i64 (.i .i64 (.i .i64 (.i .i64 (.i .i64 (.i .i64 (.l 2 (.i .i64 (.i .i64 .nil)) (.l 2 (.i .i64 (.i .i64 .nil)) (.i .i64 (.i .i64 (.i .i64 (.i .i64 .nil)))))))))))))))))))))))))))))))))))))))))))))))))) us1) : PRun Tryz.prog 3 [] [.a (us0.map .u), .a (us1.map .u)] fun v _ => v = .u (.b true) := by
 obtain ⟨c, e0, hr⟩ := conv_C us0 sh0
 rw [e0]
 obtain ⟨a9, _, rfl, -, a10, _, rfl, -, a11, _, rfl, -, a12, _, rfl, -, a13, _, rfl, -, a14, _, rfl, -, a15, _, rfl, -, a16, _, rfl, -, a17, _, rfl, -, a18, _, rfl, -, a19, _, rfl, -, a20, _, rfl, -, a21, _, rfl, -, a22, _, rfl, -, a23, _, rfl, -, a24, _, rfl, -, a25, _, rfl, -, a26, _, rfl, -, a27, _, rfl, -, a28, _, rfl, -, a29, _, rfl, -, a30, _, rfl, -, a31, _, rfl, -, a32, _, rfl, -, a33, _, rfl, -, a34, _, rfl, -, a35, _, rfl, -, a36, _, rfl, -, a37, _, rfl, -, a38, _, rfl, -, a39, _, rfl, -, a40, _, rfl, -, a41, _, rfl, -, a42, _, rfl, -, a43, _, rfl, -, a44, _, rfl, -, a45, _, rfl, -, a46, _, rfl, -, a47, _, rfl, -, a48, _, rfl, -, a49, _, rfl, -, a50, _, rfl, -, a51, _, rfl, -, a52, _, rfl, -, a53, _, rfl, -, -, a54, _, rfl, -, -, a55, _, rfl, -, a56, _, rfl, -, a57, _, rfl, -, a58, _, rfl, -, rfl⟩ := sh1
 have hF : PRun Tryz.prog 4 [] [aC c] fun x m => x = .u (.b (fewB c)) ∧ m = [] := few2_S ⟨rfl, rfl⟩
 have hG : PRun Tryz.prog 5 [.w 42 50 [[.n a9, .n a10, .n a11, .n a12, .n a13, .n a14, .n a15, .n a16, .n a17, .n a18, .n a19, .n a20, .n a21, .n a22, .n a23, .n a24, .n a25, .n a26, .n a27, .n a28, .n a29, .n a30, .n a31, .n a32, .n a33, .n a34, .n a35, .n a36, .n a37, .n a38, .n a39, .n a40, .n a41, .n a42, .n a43, .n a44, .n a45, .n a46, .n a47, .n a48, .n a49, .n a50, .n a51, .n a52, .l 2 a53, .l 2 a54, .n a55, .n a56, .n a57, .n a58]]] [.w 0, .i 1] fun x m => x = .u (.b (fewD a53 a54)) ∧ m = [.w 42 50 [[.n a9, .n a10, .n a11, .n a12, .n a13, .n a14, .n a15, .n a16, .n a17, .n a18, .n a19, .n a20, .n a21, .n a22, .n a23, .n a24, .n a25, .n a26, .n a27, .n a28, .n a29, .n a30, .n a31, .n a32, .n a33, .n a34, .n a35, .n a36, .n a37, .n a38, .n a39, .n a40, .n a41, .n a42, .n a43, .n a44, .n a45, .n a46, .n a47, .n a48, .n a49, .n a50, .n a51, .n a52, .l 2 a53, .l 2 a54, .n a55, .n a56, .n a57, .n a58]]] := fewA_S rfl rfl ⟨rfl, rfl⟩
 cases hb : fewB c with
 | false =>
   rw [hb] at hF
   exact (nb_F ⟨c.types, c.blues.map eB, c.places, c.bays.map eY, c.chars, c.broker, c.least, c.sales, a9, a10, a11, a12, a13, a14, a15, a16, a17, a18, a19, a20, a21, a22, a23, a24, a25, a26, a27, a28, a29, a30, a31, a32, a33, a34, a35, a36, a37, a38, a39, a40, a41, a42, a43, a44, a45, a46, a47, a48, a49, a50, a51, a52, a53, a54, a55, a56, a57, a58, [], [], worO c 0, worO2 c 0, 0⟩ ⟨hF, trivial, trivial, trivial, trivial, trivial, trivial, trivial, trivial, rfl⟩).mono fun x m h => h.1
 | true =>
   rw [hb] at hF
   cases hd : fewD a53 a54 with
   | false =>
     rw [hd] at hG
     exact (nb_G ⟨c.types, c.blues.map eB, c.places, c.bays.map eY, c.chars, c.broker, c.least, c.sales, a9, a10, a11, a12, a13, a14, a15, a16, a17, a18, a19, a20, a21, a22, a23, a24, a25, a26, a27, a28, a29, a30, a31, a32, a33, a34, a35, a36, a37, a38, a39, a40, a41, a42, a43, a44, a45, a46, a47, a48, a49, a50, a51, a52, a53, a54, a55, a56, a57, a58, [], [], worO c 0, worO2 c 0, 0⟩ ⟨hF, hG, trivial, trivial, trivial, trivial, trivial, trivial, trivial, rfl⟩).mono fun x m h => h.1
   | true =>
     rw [hd] at hG
     have hf : Few c := Classical.byContradiction fun h => by rw [fewB_f h] at hb; cases hb
     have hC : PRun Tryz.prog 29 [] [aC c] fun x m => x = .i (catE c) ∧ m = [] := zn5 (hf.rg hr) ⟨rfl, rfl⟩
     have hK : PRun Tryz.prog 8 [] [aC c] fun x m => x = .i (catE c) ∧ m = [] := rCat_S (hf.rg hr) ⟨rfl, rfl⟩
     cases he : eqF (catE c) 0 with
     | false => exact (nb_EX ⟨c.types, c.blues.map eB, c.places, c.bays.map eY, c.chars, c.broker, c.least, c.sales, a9, a10, a11, a12, a13, a14, a15, a16, a17, a18, a19, a20, a21, a22, a23, a24, a25, a26, a27, a28, a29, a30, a31, a32, a33, a34, a35, a36, a37, a38, a39, a40, a41, a42, a43, a44, a45, a46, a47, a48, a49, a50, a51, a52, a53, a54, a55, a56, a57, a58, [], [], worO c 0, worO2 c 0, catE c⟩ ⟨hF, hG, hC, hK, trivial, wnewX_S (hf.rg hr) (fun h => by rw [h] at he; cases he), trivial, trivial, trivial, he⟩).mono fun x m h => h.1
     | true =>
       rw [eqF_eq] at he
       have he := of_decide_eq_true he
       have hz := zp8 he
       have hch := inn_iff.1 hz.chars
       obtain ⟨n, hn⟩ : ∃ n : Nat, c.chars = n := Int.eq_ofNat_of_zero_le (by omega)
       have hn16 : n ≤ 16 := by omega
       have hN := wnew_S (hf.rg hr) he hn hn16
       have hSt := wstate_S (c := c) hz hn16
       have hEm := empty_S hz hn hn16
       have hDf := wdiff_S (n := n + 1) (m := 2 * c.bays.length) (by omega) (by have := hz.ny; omega)
       rw [he] at hC hK
       exact (nb_E0 ⟨c.types, c.blues.map eB, c.places, c.bays.map eY, c.chars, c.broker, c.least, c.sales, a9, a10, a11, a12, a13, a14, a15, a16, a17, a18, a19, a20, a21, a22, a23, a24, a25, a26, a27, a28, a29, a30, a31, a32, a33, a34, a35, a36, a37, a38, a39, a40, a41, a42, a43, a44, a45, a46, a47, a48, a49, a50, a51, a52, a53, a54, a55, a56, a57, a58, zep (n + 1), zbx (2 * c.bays.length), worO c n, worO2 c n, 0⟩ ⟨hF, hG, hC, hK, hN, trivial, hSt, hEm, hDf, rfl⟩).mono fun x m h => h.1
end
section
open Go.ChangeShapes Go.WideShapes Go.ChangeAt Go.RowKit
set_option maxRecDepth 100000 in
theorem zhb (os : Os) (started : os.Started) (H : Type) (enc : TypeId × Value → H) :
 ReturnsInHanded {} Tryz.checked os 3 .any (Rows.worldNobodySpec.pre6 enc Tryz.prog Tryz.f3 Rows.worldNobodyRow.domain false) (Rows.worldNobodySpec.post enc Tryz.prog Tryz.f3 false true false false) := by
 refine returnsInHanded_of_change (C := Tryz.checked) Tryz.own started (by kernel_rfl) Tryz.func3
  (ChangeSpec.witness6 (enc := enc) (C := Tryz.checked) false ⟨#[], #[.agg #[.int .i64 0, .slice none 0 0, .int .i64 0, .slice none 0 0, .int .i64 0, .int .i64 0, .int .i64 0, .int .i64 0], .agg #[.int .i64 0, .int .i64 0, .int .i64 0, .int .i64 0, .int .i64 0, .int .i64 0, .int .i64 0, .int .i64 0, .int .i64 0, .int .i64 0, .int .i64 0, .int .i64 0, .int .i64 0, .int .i64 0, .int .i64 0, .int .i64 0, .int .i64 0, .int .i64 0, .int .i64 0, .int .i64 0, .int .i64 0, .int .i64 0, .int .i64 0, .int .i64 0, .int .i64 0, .int .i64 0, .int .i64 0, .int .i64 0, .int .i64 0, .int .i64 0, .int .i64 0, .int .i64 0, .int .i64 0, .int .i64 0, .int .i64 0, .int .i64 0, .int .i64 0, .int .i64 0, .int .i64 0, .int .i64 0, .int .i64 0, .int .i64 0, .int .i64 0, .int .i64 0, .slice none 0 0, .slice none 0 0, .int .i64 0, .int .i64 0, .int .i64 0, .int .i64 0]], []⟩ 8 (by kernel_rfl) (by kernel_rfl) (by kernel_rfl) (by kernel_rfl)) ?_
 intro W base args ds gs before hval0 hW hcnd _
 have hval : ∀ (j : Nat) t v, Tryz.f3.params[j]? = some t → args[j]? = some v → Value.okWide Tryz.prog W .any base t v := hval0
 have hW' := hW
 obtain ⟨p, q, hA0, hV, rfl, hfz, hnd⟩ := hW
 have hA : DataW.TrodAll enc Tryz.prog W 0 (fun _ => true) true Tryz.f3.params.toList args.toList ds p := hA0
 rw [Tryz.params3] at hA hval
 obtain ⟨v0, v1, d0, d1, p0, p1, rfl, rfl, rfl, h0, h1⟩ := trodAll_two hA
 obtain ⟨rfl, rfl⟩ := trodVars_none hV
 obtain ⟨us0, hr0, sh0⟩ := open_data (ds := (.i .i64 (.l 7 (.i .i64 (.i .i64 (.i .i64 (.l 2 (.i .i64 (.i .i64 .nil)) (.i .i64 (.i .i64 (.i .i64 .nil))))))) (.i .i64 (.l 4 (.i .i64 (.i .i64 (.i .i64 (.i .i64 .nil)))) (.i .i64 (.i .i64 (.i .i64 (.i .i64 .nil))))))))) (by kernel_rfl) h0
 obtain ⟨cs0, rfl⟩ : ∃ cs, v0 = .agg cs := by
  have hv := hval 0 27 v0 rfl rfl
  unfold Value.okWide at hv
  rw [Tryz.underlying27] at hv
  obtain ⟨cs, rfl, -⟩ := hv
  exact ⟨cs, rfl⟩
 obtain ⟨us1, hr1, sh1⟩ := open_data (ds := (.i .i64 (.i .i64 (.i .i64 (.i .i64 (.i .i64 (.i .i64 (.i .i64 (.i .i64 (.i .i64 (.i .i64 (.i .i64 (.i .i64 (.i .i64 (.i .i64 (.i .i64 (.i .i64 (.i .i64 (.i .i64 (.i .i64 (.i .i64 (.i .i64 (.i .i64 (.i .i64 (.i .i64 (.i .i64 (.i .i64 (.i .i64 (.i .i64 (.i .i64 (.i .i64 (.i .i64 (.i .i64 (.i .i64 (.i .i64 (.i .i64 (.i .i64 (.i .i64 (.i .i64 (.i .i64 (.i .i64 (.i .i64 (.i .i64 (.i .i64 (.i .i64 (.l 2 (.i .i64 (.i .i64 .nil)) (.l 2 (.i .i64 (.i .i64 .nil)) (.i .i64 (.i .i64 (.i .i64 (.i .i64 .nil))))))))))))))))))))))))))))))))))))))))))))))))))) (by kernel_rfl) h1
 obtain ⟨cs1, rfl⟩ : ∃ cs, v1 = .agg cs := by
  have hv := hval 1 42 v1 rfl rfl
  unfold Value.okWide at hv
  rw [Tryz.underlying42] at hv
  obtain ⟨cs, rfl, -⟩ := hv
  exact ⟨cs, rfl⟩
 clear hA0 hval0
 refine ((zkh sh0 sh1 (allD W.heap) [] [] [] W.heap _ (SAt.all W.heap) (.cons (rp_agg hr0) (.cons (rp_agg hr1) (.nil)))).2 W rfl).mono ?_
 rintro e W' ⟨v, rfl, ⟨D', ρ', chs', x, m', le, M', hv, rfl⟩, hsm⟩
 obtain rfl : v = .bool true := by cases hv with | u h => cases h; rfl
 have hb := belowOf (St.kept le M'.st) hsm
 have hlt0 : ∀ x ∈ p0, x.block < W.heap.size := fun x hx => by simpa using hW'.lt x (by simp [hx])
 have hlt1 : ∀ x ∈ p1, x.block < W.heap.size := fun x hx => by simpa using hW'.lt x (by simp [hx])
 exact ⟨_, rfl, _, _, _, [], _, [], hW', trodAll_mk1 (shut_bool Tryz.underlying4 true), trodAll_mk2 (hb.trod Tryz.laidOut (by kernel_rfl) (of_decide_eq_true (by kernel_rfl)) h0 hlt0) (hb.trod Tryz.laidOut (by kernel_rfl) (of_decide_eq_true (by kernel_rfl)) h1 hlt1), rfl, hb.frame _, fun h => by cases h⟩
theorem zg5 {a b : Bool} (h1 : a = true) (h2 : b = true) : (a && b) = true := by rw [h1, h2]; rfl
theorem znb : (Rows.worldNobodyRow.wf (OpenSpec.ofChange Rows.worldNobodySpec)) = true := by kernel_rfl
theorem zna : (laidOutB Tryz.prog) = true := by kernel_rfl
theorem zm9 : (mapsRowed Tryz.prog) = true := by kernel_rfl
theorem zm8 : (Tryz.f3.params.all (Tryz.prog.readableRec ·)) = true := by kernel_rfl
theorem zm7 : (namedTie Tryz.prog Rows.worldNobodyRow.named Rows.worldNobodySpec.vars) = true := by kernel_rfl
theorem zm6 : ((Rows.worldNobodyRow.stops == [])) = true := by kernel_rfl
theorem zm5 : ((Tryz.prog.stops == [])) = true := by kernel_rfl
theorem zm4 : ((Rows.worldNobodyRow.knobs == [])) = true := by kernel_rfl
theorem zm3 : ((Tryz.prog.stopKnobs == [])) = true := by kernel_rfl
theorem zm2 : ((Rows.worldNobodyRow.inPlace == Tryz.prog.inPlace 3)) = true := by kernel_rfl
theorem zk3 : ((Rows.worldNobodyRow.unfollowed == Tryz.prog.unfollowed 3)) = true := by kernel_rfl
theorem zk2 : ((Rows.worldNobodyRow.recurses == Tryz.prog.recurses 3)) = true := by kernel_rfl
theorem zk1 : ((Rows.worldNobodyRow.named == Tryz.prog.varsNamed 3)) = true := by kernel_rfl
theorem zk0 : ((Rows.worldNobodyRow.maps == (Tryz.f3.params.toList ++ Rows.worldNobodySpec.plain.varTypes Tryz.prog).any (Tryz.prog.mapsRec ·))) = true := by kernel_rfl
theorem zkz : ((Rows.worldNobodyRow.ifaces == (Tryz.f3.params.toList ++ Rows.worldNobodySpec.plain.varTypes Tryz.prog).any (Tryz.prog.ifacesRec ·))) = true := by kernel_rfl
theorem zky : ((Rows.worldNobodyRow.mapsOut == Tryz.prog.mapsAmong Tryz.f3.resultTypes.toList)) = true := by kernel_rfl
theorem zkx : ((Rows.worldNobodyRow.loops == (Tryz.f3.params.toList ++ Rows.worldNobodySpec.plain.varTypes Tryz.prog).any (Tryz.prog.loopsFrom ·))) = true := by kernel_rfl
theorem zkw : ((Rows.worldNobodyRow.wideKeys == (Tryz.f3.params.toList ++ Rows.worldNobodySpec.plain.varTypes Tryz.prog ++ Tryz.f3.resultTypes.toList).any (Tryz.prog.wideKeysFrom ·))) = true := by kernel_rfl
theorem zkv : (Rows.worldNobodySpec.vars.all (Tryz.prog.varReadable ·)) = true := by kernel_rfl
theorem zku : (Tryz.f3.resultTypes.all (fun t => Tryz.prog.readableRec t && decide (t < Tryz.prog.types.size))) = true := by kernel_rfl
theorem zkt : ((Rows.worldNobodyRow.ifacesOut == Tryz.f3.resultTypes.toList.any (Tryz.prog.ifacesRec ·))) = true := by kernel_rfl
theorem zks : ((Rows.worldNobodyRow.loopsOut == Tryz.f3.resultTypes.toList.any (Tryz.prog.loopsFrom ·))) = true := by kernel_rfl
theorem zkr : ((Rows.worldNobodyRow.plainKeys == Tryz.prog.plainKeys)) = true := by kernel_rfl
theorem zkq : (Rows.worldNobodyRow.shortTexts.isNone) = true := by kernel_rfl
theorem zkp : (Tryz.prog.stopsHeard) = true := by kernel_rfl
theorem zko : (Tryz.prog.mayEnter) = true := by kernel_rfl
theorem zkn : ((Rows.worldNobodyRow.lifted == Tryz.prog.liftsFinal)) = true := by kernel_rfl
theorem zkm : ((Tryz.prog.make == some Rows.worldNobodyRow.make)) = true := by kernel_rfl
theorem zkl : ((Rows.worldNobodyRow.kinds == (if Rows.worldNobodyRow.domain.isEmpty then [] else Tryz.f3.params.toList.map fun t => match Tryz.prog.underlying t with | some (.int k) => some k | _ => none))) = true := by kernel_rfl
theorem zkk : ((Rows.worldNobodyRow.pinned == Rows.worldNobodyRow.pinnedBy)) = true := by kernel_rfl
theorem zkj : ((Rows.worldNobodyRow.veiled == (Tryz.f3.params.toList ++ Rows.worldNobodySpec.plain.varTypes Tryz.prog ++ Tryz.f3.resultTypes.toList).any (Tryz.prog.veiledRec ·))) = true := by kernel_rfl
theorem zki : (Rows.worldNobodyRow.veiledFits Tryz.prog Tryz.f3.params.toList (Tryz.f3.params.toList ++ Rows.worldNobodySpec.plain.varTypes Tryz.prog ++ Tryz.f3.resultTypes.toList)) = true := by kernel_rfl
set_option maxRecDepth 100000 in
theorem zhc : joinedFacts Tryz.prog 3 Tryz.f3 Rows.worldNobodySpec Rows.worldNobodyRow = true := (zg5 (zg5 (zg5 (zg5 (zg5 (zg5 (zg5 (zg5 (zg5 (zg5 (zg5 (zg5 (zg5 (zg5 (zg5 (zg5 (zg5 (zg5 (zg5 (zg5 (zg5 (zg5 (zg5 (zg5 (zg5 (zg5 (zg5 (zg5 (zg5 (zg5 (zg5 znb zna) zm9) zm8) zm7) zm6) zm5) zm4) zm3) zm2) zk3) zk2) zk1) zk0) zkz) zky) zkx) zkw) zkv) zku) zkt) zks) zkr) zkq) zkp) zko) zkn) zkm) zkl) zkk) zkj) zki)
theorem worldNobody_holds : Rows.WorldNobodySaid :=
 OpenClaim.holds_of_wide 3 Tryz.f3 rfl rfl rfl rfl rfl rfl rfl ⟨rfl, rfl, rfl, rfl, rfl⟩ rfl rfl rfl rfl rfl (by kernel_rfl) Tryz.func3 zhc
  (of_decide_eq_true (by kernel_rfl)) (by unfold Func.isWrapper; first | (rw [if_pos (by decide +kernel)]; kernel_rfl) | (rw [if_neg (by decide +kernel)]; exact ⟨rfl, rfl⟩))
  (fun os started H enc _ => zhb os started H enc)
end
end Go.Proofs.YtobdpeelaadkbaaGreat
