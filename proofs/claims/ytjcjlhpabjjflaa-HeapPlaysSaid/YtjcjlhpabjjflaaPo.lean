/- What layer 7 computes: down. -/
import Derived.Test.YtjcjlhpabjjflaaPn
set_option linter.unusedVariables false
namespace Go.Proofs.Ytjcjlhpabjjflaa
open Go Go.Proofs
attribute [local irreducible] appK copyK delK updK lookK makeK rangeK nextM entryM mapEntryK entryStK lenMapK

/-- What down does once it knows which one below comes first (by program, out of V2's text). -/
def T66 (q : Option Addr) (m7 : Nat) (x4 be : Int) (hh : Heap) (R : Value → Heap → Prop) (k1 : Int → Heap → Prop) (z1 : Int → Heap → Nat) (z0 : Nat) : Prop :=
  onPtr q (fun m56 m57 => ∃ p11 : Option Addr, ∃ m58 : Nat, ∃ m59 : Nat, hcell hh ⟨m56, m57, none⟩ = some (.slice p11 m58 m59) ∧ (bif decide (be ≥ (m58 : Int)) then ∃ x44 : Int, hcell hh ⟨m7, 0, none⟩ = some (.int .i64 x44) ∧ (∃ x45 : Int, hcell hh ⟨m7, 1, none⟩ = some (.int .i64 x45) ∧ (∃ x46 : Int, hcell hh ⟨m7, 2, none⟩ = some (.int .i64 x46) ∧ Run Try.prog 64 [.pointer q, .int .i64 x4, .agg #[.int .i64 x44, .int .i64 x45, .int .i64 x46]] hh (fun v10 h13 => v10 = .tuple #[] ∧ R (.tuple #[]) h13))) else onPtr q (fun m60 m61 => ∃ p12 : Option Addr, ∃ m62 : Nat, ∃ m63 : Nat, hcell hh ⟨m60, m61, none⟩ = some (.slice p12 m62 m63) ∧ onPtr p12 (fun m64 m65 => 0 ≤ be ∧ be < (m62 : Int) ∧ (∃ x47 : Int, hcell hh ⟨m64, m65 + Int.toNat be * 3, none⟩ = some (.int .i64 x47) ∧ (∃ x48 : Int, hcell hh ⟨m64, m65 + Int.toNat be * 3 + (0 + 1), none⟩ = some (.int .i64 x48) ∧ (∃ x49 : Int, hcell hh ⟨m64, m65 + Int.toNat be * 3 + (0 + 1 + 1), none⟩ = some (.int .i64 x49) ∧ (∃ x50 : Int, hcell hh ⟨m7, 0, none⟩ = some (.int .i64 x50) ∧ (∃ x51 : Int, hcell hh ⟨m7, 1, none⟩ = some (.int .i64 x51) ∧ (∃ x52 : Int, hcell hh ⟨m7, 2, none⟩ = some (.int .i64 x52) ∧ Run Try.prog 63 [.agg #[.int .i64 x47, .int .i64 x48, .int .i64 x49], .agg #[.int .i64 x50, .int .i64 x51, .int .i64 x52]] hh (fun v11 h14 => ∃ x53 : Int, v11 = .int .i64 x53 ∧ (bif decide (x53 > 0) then ∃ x54 : Int, hcell h14 ⟨m7, 0, none⟩ = some (.int .i64 x54) ∧ (∃ x55 : Int, hcell h14 ⟨m7, 1, none⟩ = some (.int .i64 x55) ∧ (∃ x56 : Int, hcell h14 ⟨m7, 2, none⟩ = some (.int .i64 x56) ∧ Run Try.prog 64 [.pointer q, .int .i64 x4, .agg #[.int .i64 x54, .int .i64 x55, .int .i64 x56]] h14 (fun v12 h15 => v12 = .tuple #[] ∧ R (.tuple #[]) h15))) else onPtr q (fun m66 m67 => ∃ p13 : Option Addr, ∃ m68 : Nat, ∃ m69 : Nat, hcell h14 ⟨m66, m67, none⟩ = some (.slice p13 m68 m69) ∧ onPtr p13 (fun m70 m71 => 0 ≤ be ∧ be < (m68 : Int) ∧ (∃ x57 : Int, hcell h14 ⟨m70, m71 + Int.toNat be * 3, none⟩ = some (.int .i64 x57) ∧ (∃ x58 : Int, hcell h14 ⟨m70, m71 + Int.toNat be * 3 + (0 + 1), none⟩ = some (.int .i64 x58) ∧ (∃ x59 : Int, hcell h14 ⟨m70, m71 + Int.toNat be * 3 + (0 + 1 + 1), none⟩ = some (.int .i64 x59) ∧ Run Try.prog 64 [.pointer q, .int .i64 x4, .agg #[.int .i64 x57, .int .i64 x58, .int .i64 x59]] h14 (fun v13 h16 => v13 = .tuple #[] ∧ k1 be h16 ∧ z1 be h16 < z0))))))))))))))))))

theorem par_kids {i j : Nat} (h : 0 < i) : par i = j ↔ i = 2 * j + 1 ∨ i = 2 * j + 2 := by unfold par; omega
def DownR (B : Nat) (h : Heap) (qb mb : Nat) (a : Option Addr) (c : Nat) (xs : List Tm) (most next : Int) (v : Value) (h' : Heap) : Prop :=
  v = .tuple #[] ∧ ∃ (ys : List Tm) (m' : List Stk), QB B h' qb mb a c ys m' most next ∧ KB (foot qb mb a) h h' ∧ ys.Perm xs ∧ IsHeap ys ∧ MAll m' ys
def DInv (B : Nat) (h : Heap) (qb mb : Nat) (a : Option Addr) (c : Nat) (xs : List Tm) (t : Tm) (most next : Int) (m7 : Nat) (x4 : Int) (h3 : Heap) : Prop :=
  ∃ (j : Nat) (zs : List Tm) (m3 : List Stk) (ys : List Tm), x4 = j ∧ QB B h3 qb mb a c zs m3 most next ∧ zs.set j t = ys ∧ ys[j]? = some t ∧ ys.Perm xs ∧ HE ys j ∧ UpOK ys j ∧ MEx m3 ys j ∧
    h3[m7]? = some (.cells #[.int .i64 t.1, .int .i64 t.2.1, .int .i64 t.2.2] 30 (0, 0)) ∧ KB (foot qb mb a) h h3
theorem tail_spec {B : Nat} {h h3 h4 : Heap} {qb mb : Nat} {a : Option Addr} {c : Nat} {xs zs ys : List Tm} {m3 : List Stk} {t : Tm} {most next : Int} {m7 j be : Nat} (q3 : QB B h3 qb mb a c zs m3 most next) (hset : zs.set j t = ys) (hj : ys[j]? = some t)
    (hperm : ys.Perm xs) (hi : Ids xs) (hH : HE ys j) (hU : UpOK ys j) (hM : MEx m3 ys j) (hb3 : h3[m7]? = some (.cells #[.int .i64 t.1, .int .i64 t.2.1, .int .i64 t.2.2] 30 (0, 0))) (k3 : KB (foot qb mb a) h h3) (hft : m7 ∉ foot qb mb a) (hn : xs.length ≤ 1000000)
    (k34 : Keep h3 h4) (hbe : be = 2 * j + 1 ∨ be = 2 * j + 2) (hno : ¬ be < ys.length → ∀ i, 0 < i → par i = j → ys[i]? = none)
    (hsm : ∀ u, ys[be]? = some u → ∀ i w, 0 < i → par i = j → ys[i]? = some w → leT u w) :
    T66 (some ⟨qb, 0, none⟩) m7 (j : Int) (be : Int) h4 (DownR B h qb mb a c xs most next) (DInv B h qb mb a c xs t most next m7) (fun x _ => xs.length - x.toNat) (xs.length - Int.toNat (j : Int)) := by
  have hlz : zs.length = ys.length := by rw [← hset, List.length_set]
  have hly : ys.length = xs.length := hperm.length_eq
  have hjl := (List.getElem?_eq_some_iff.1 hj).1
  have hiy : Ids ys := ids_perm hperm hi
  have hzy : ∀ i, i ≠ j → zs[i]? = ys[i]? := fun i hij => by rw [← hset, List.getElem?_set_ne (Ne.symm hij)]
  have hb0 : 0 < be := by omega
  have hpb : par be = j := (par_kids hb0).2 hbe
  have hend : ∀ h5 : Heap, Keep h3 h5 → DownOK ys j → ∃ x : Int, hcell h5 ⟨m7, 0, none⟩ = some (.int .i64 x) ∧ ∃ y : Int, hcell h5 ⟨m7, 1, none⟩ = some (.int .i64 y) ∧ ∃ z : Int, hcell h5 ⟨m7, 2, none⟩ = some (.int .i64 z) ∧
      Run Try.prog 64 [.pointer (some ⟨qb, 0, none⟩), .int .i64 (j : Int), .agg #[.int .i64 x, .int .i64 y, .int .i64 z]] h5 fun v h6 => v = .tuple #[] ∧ DownR B h qb mb a c xs most next (.tuple #[]) h6 := fun h5 k5 hd => by
    have hb5 := k5.get hb3 (by simp)
    refine ⟨_, by rw [hcell_of hb5]; rfl, _, by rw [hcell_of hb5]; rfl, _, by rw [hcell_of hb5]; rfl, ?_⟩
    refine (set_spec (q3.keep k5) (k := j) (by omega) t).mono ?_
    rintro v h6 ⟨rfl, q6, k6⟩
    rw [hset] at q6
    exact ⟨rfl, rfl, ys, _, q6, (k3.trans (.of_keep k5)).trans k6, hperm, hH.heap hU hd, hM.close hiy hj⟩
  have q4 := q3.keep k34
  unfold T66
  refine ⟨_, _, _, by rw [hcell_of q4.q]; rfl, ?_⟩
  refine cIf (fun hge => ?_) (fun hlt => ?_)
  · exact hend h4 k34 fun i hi0 hpi x y hx hy => by rw [hno (by omega) i hi0 hpi] at hy; cases hy
  have hbl : be < ys.length := by omega
  obtain ⟨u, hu⟩ : ∃ u, ys[be]? = some u := ⟨ys[be], List.getElem?_eq_getElem hbl⟩
  have hbj : be ≠ j := by omega
  have huz : zs[be]? = some u := (hzy be hbj).trans hu
  obtain ⟨b, rfl, -, f0, f1, f2⟩ := OwnT.get q4.row huz
  have hb4 := k34.get hb3 (by simp)
  refine ⟨_, _, _, by rw [hcell_of q4.q]; rfl, ?_⟩
  refine ⟨by omega, by omega, ?_⟩
  rw [Int.toNat_natCast]
  refine ⟨_, f0, _, f1, _, f2, _, by rw [hcell_of hb4]; rfl, _, by rw [hcell_of hb4]; rfl, _, by rw [hcell_of hb4]; rfl, ?_⟩
  refine (compare_spec u t h4).mono ?_
  rintro v h5 ⟨k45, x, rfl, hx1, hx2⟩
  have k35 := k34.trans k45
  refine ⟨_, rfl, cIf (fun hgt => ?_) (fun hle => ?_)⟩
  · refine hend h5 k35 fun i hi0 hpi p w hp hw => ?_
    rw [hpi, hj] at hp
    cases hp
    exact (leT.total (hx1.1 hgt)).trans (hsm u hu i w hi0 hpi hw)
  · have hut : leT u t := Decidable.byContradiction fun hc => hle (hx1.2 hc)
    have q5 := q3.keep k35
    obtain ⟨b', e', -, f0, f1, f2⟩ := OwnT.get q5.row huz
    cases e'
    refine ⟨_, _, _, by rw [hcell_of q5.q]; rfl, ?_⟩
    refine ⟨by omega, by omega, _, f0, _, f1, _, f2, ?_⟩
    refine (set_spec q5 (k := j) (by omega) u).mono ?_
    rintro v h6 ⟨rfl, q6, k6⟩
    obtain ⟨hdo, hup⟩ := hH.down hb0 hpb hj hu hut (fun i w h1 h2 h3 => hsm u hu i w h1 h2 h3)
    refine ⟨rfl, ⟨be, _, _, swp ys j be t u, rfl, q6, ?_, ?_, (swp_perm hj hu (Ne.symm hbj)).trans hperm, hdo, hup, hM.move hiy hj hu (Ne.symm hbj), ?_, ?_⟩, by simp only [Int.toNat_natCast]; omega⟩
    · unfold swp
      rw [← hset, List.set_set]
    · rw [swp_get hjl hbl (Ne.symm hbj), if_neg hbj, if_pos rfl]
    · exact k6.get (k35.get hb3 (by simp)) hft
    · exact (k3.trans (.of_keep k35)).trans k6
theorem down_spec {B : Nat} {h : Heap} {qb mb : Nat} {a : Option Addr} {c : Nat} {xs : List Tm} {m : List Stk} {most next : Int} (s : QB B h qb mb a c xs m most next) {k : Nat} {t : Tm} (hk : xs[k]? = some t) (hn : xs.length ≤ 1000000) (hi : Ids xs) (hH : HE xs k) (hU : UpOK xs k) (hM : MEx m xs k) :
    Run Try.prog 66 [.pointer (some ⟨qb, 0, none⟩), .int .i64 (k : Int)] h (DownR B h qb mb a c xs most next) := by
  have hkl := (List.getElem?_eq_some_iff.1 hk).1
  refine V66 _ _ _ _ ?_
  unfold VC66
  refine ⟨_, _, _, by rw [hcell_of s.q]; rfl, ?_⟩
  obtain ⟨b, rfl, hbo, g0, g1, g2⟩ := OwnT.get s.row hk
  refine ⟨by omega, by omega, ?_⟩
  rw [Int.toNat_natCast]
  refine ⟨_, g0, _, g1, _, g2, newB_intro fun h1 hb1 k1 s1 => ?_⟩
  refine storeS_blk (l := [.int .i64 0, .int .i64 0, .int .i64 0]) hb1 (by simp) (encT_single t) fun h2 hb2 k2 s2 => ?_
  have hb2' : h2[h.size]? = some (.cells #[.int .i64 t.1, .int .i64 t.2.1, .int .i64 t.2.2] 30 (0, 0)) := by simpa [splice] using hb2
  have k02 : Keep h h2 := ((KB.of_keep k1).trans k2).keep (by simp)
  have hft : h.size ∉ foot qb mb (some ⟨b, 0, none⟩) := by
    intro hm
    have e1 := lt_of_get s.q
    have e2 := s.map.lt
    have e3 : b < h.size := hcell_lt g0
    simp [foot, ownB] at hm; omega
  refine ⟨DInv B h qb mb (some ⟨b, 0, none⟩) c xs t most next h.size, fun x _ => xs.length - x.toNat, ⟨k, xs, m, xs, rfl, s.keep k02, ?_, hk, .refl _, hH, hU, hM, hb2', .of_keep k02⟩, ?_⟩
  · apply List.ext_getElem?
    intro i
    by_cases hik : k = i
    · subst hik; rw [List.getElem?_set_self hkl, hk]
    · rw [List.getElem?_set_ne hik]
  rintro - h3 x4 ⟨j, zs, m3, ys, rfl, q3, hset, hj, hperm, hH3, hU3, hM3, hb3, k3⟩
  have hlz : zs.length = ys.length := by rw [← hset, List.length_set]
  have hly : ys.length = xs.length := hperm.length_eq
  have hjl := (List.getElem?_eq_some_iff.1 hj).1
  have hzy : ∀ i, i ≠ j → zs[i]? = ys[i]? := fun i hij => by rw [← hset, List.getElem?_set_ne (Ne.symm hij)]
  have hw1 : IntKind.wrap .i64 (IntKind.wrap .i64 (2 * (j : Int)) + 1) = ((2 * j + 1 : Nat) : Int) := by rw [w64 (x := 2 * (j : Int)) (by omega) (by omega), w64 (by omega) (by omega)]; omega
  have hw2 : IntKind.wrap .i64 (((2 * j + 1 : Nat) : Int) + 1) = ((2 * j + 2 : Nat) : Int) := by rw [w64 (by omega) (by omega)]; omega
  rw [hw1, hw2]
  have tl := fun (be : Nat) (h4 : Heap) (k34 : Keep h3 h4) => tail_spec (be := be) q3 hset hj hperm hi hH3 hU3 hM3 hb3 k3 hft hn k34
  refine ⟨_, _, _, by rw [hcell_of q3.q]; rfl, ?_⟩
  refine cIf (fun hlt => ?_) (fun hge => ?_)
  · have l1 : 2 * j + 1 < ys.length := by omega
    have l2 : 2 * j + 2 < ys.length := by omega
    obtain ⟨u, hu⟩ : ∃ u, ys[2 * j + 1]? = some u := ⟨ys[2 * j + 1], List.getElem?_eq_getElem l1⟩
    obtain ⟨w, hw⟩ : ∃ w, ys[2 * j + 2]? = some w := ⟨ys[2 * j + 2], List.getElem?_eq_getElem l2⟩
    obtain ⟨b1, e1, -, f0, f1, f2⟩ := OwnT.get q3.row ((hzy _ (by omega)).trans hu)
    obtain ⟨b2, e2, -, d0, d1, d2⟩ := OwnT.get q3.row ((hzy _ (by omega)).trans hw)
    cases e1; cases e2
    refine ⟨_, _, _, by rw [hcell_of q3.q]; rfl, ?_⟩
    refine ⟨by omega, by omega, ?_⟩
    rw [Int.toNat_natCast, Int.toNat_natCast]
    refine ⟨_, d0, _, d1, _, d2, _, _, _, by rw [hcell_of q3.q]; rfl, ?_⟩
    refine ⟨by omega, by omega, _, f0, _, f1, _, f2, ?_⟩
    refine (compare_spec w u h3).mono ?_
    rintro v h4 ⟨k34, x, rfl, hx1, hx2⟩
    refine ⟨_, rfl, cIf (fun hl => ?_) (fun hl => ?_)⟩
    · have hwu := leT.total (hx2.1 hl)
      have := tl (2 * j + 2) h4 k34 (.inr rfl) (fun hc => absurd l2 hc) fun u' hu' i w' hi0 hpi hw' => by
        rw [hw] at hu'; cases hu'
        rcases (par_kids hi0).1 hpi with rfl | rfl
        · rw [hu] at hw'; cases hw'; exact hwu
        · rw [hw] at hw'; cases hw'; exact .refl _
      unfold T66 at this
      rw [Int.toNat_natCast] at this
      exact this
    · have huw : leT u w := Decidable.byContradiction fun hc => hl (hx2.2 hc)
      have := tl (2 * j + 1) h4 k34 (.inl rfl) (fun hc => absurd l1 hc) fun u' hu' i w' hi0 hpi hw' => by
        rw [hu] at hu'; cases hu'
        rcases (par_kids hi0).1 hpi with rfl | rfl
        · rw [hu] at hw'; cases hw'; exact .refl _
        · rw [hw] at hw'; cases hw'; exact huw
      unfold T66 at this
      rw [Int.toNat_natCast] at this
      exact this
  · have hnw : ys[2 * j + 2]? = none := List.getElem?_eq_none (by omega)
    have := tl (2 * j + 1) h3 (.refl _ _) (.inl rfl) (fun hc i hi0 hpi => by
      rcases (par_kids hi0).1 hpi with rfl | rfl
      · exact List.getElem?_eq_none (by omega)
      · exact hnw) fun u' hu' i w' hi0 hpi hw' => by
        rcases (par_kids hi0).1 hpi with rfl | rfl
        · rw [hu'] at hw'; cases hw'; exact .refl _
        · rw [hnw] at hw'; cases hw'
    exact this
end Go.Proofs.Ytjcjlhpabjjflaa
