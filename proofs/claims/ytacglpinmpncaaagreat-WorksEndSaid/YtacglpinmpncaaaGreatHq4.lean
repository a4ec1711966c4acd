/- Bins: adds, Put, Take. -/
import Derived.Test.YtacglpinmpncaaaGreatHq3
import Derived.LoopNIn
import Derived.Test.YtacglpinmpncaaaGreatProg
set_option linter.unusedVariables false
namespace Go.Proofs.YtacglpinmpncaaaGreat
variable {a' : Act} {gc : Bool} {fn : Func} {f g : FuncId} {X : Fz → List Loc → Prop} {j most next : Int} {a o s : List (List U)} {c d e h m : List (MK × List U)} {b l : List Int} {ρ' : List Loc} {args : List V} {K : List V → Mem → Prop} {vs : List Value} {chs' : List zac} {L : Loc} {m' m0 : Mem} {k n : Nat} {P : Program} {x : V} {KS Q : V → Mem → Prop} {v : Value} {w w' : World} {Y : YC} {self : zq2}
open _root_.Array renaming getD_eq_getD_getElem? → z1o, mapM_eq_mapM_toList → z2x
open _root_.Bool renaming and_eq_true → zyy, or_eq_false_iff → z2e
open _root_.Int renaming eq_ofNat_of_zero_le → z04, fdiv_eq_ediv_of_nonneg → z23, le_refl → zzk, toNat → zyx, toNat_natCast → zzm
open _root_.Go.IntKind renaming wrap → zyu, wrap_u64 → z2v
open _root_.List renaming all_eq_true → z0d, append_assoc → zy8, append_nil → zzw, cons_append → zz6, dropLast_concat_getLast → z21, drop_drop → z08, drop_eq_getElem_cons → z1e, drop_eq_nil_iff → z3g, drop_eq_nil_of_le → z0u, eq_nil_of_length_eq_zero → z0p, eraseIdx_append_of_lt_length → z02, ext_getElem → z2f, ext_getElem? → z1a, filter_append → z2i, filter_eq_self → z16, flatten_append → zzs, flatten_cons → zzd, flatten_nil → z2h, getElem?_append_left → zy7, getElem?_append_right → zzn, getElem?_cons_succ → z2c, getElem?_cons_zero → z2u, getElem?_eq_getElem → zy0, getElem?_eq_none → z0m, getElem?_eq_none_iff → z24, getElem?_eq_some_iff → zyz, getElem?_map → zy5, getElem?_set_ne → zzp, getElem?_set_self → zz3, getElem?_take → z0l, getElem_map → z15, getElem_range → z3f, length → zyv, length_append → zzl, length_cons → zzg, length_map → zy2, length_set → zzz, length_take → zz1, map → zzf, mapM_cons → z1x, map_append → zzr, map_cons → zzj, map_drop → z1f, map_nil → z1n, map_set → z1b, map_take → z03, mem_append → zy6, mem_cons → zy3, mem_cons_of_mem → zzo, mem_cons_self → zzq, mem_flatMap → z1m, mem_iff_getElem? → zz4, mem_map → zzu, mem_of_getElem? → zy4, mem_singleton → z0s, mem_singleton_self → zzx, nil_append → zz7, nodup_append → z01, nodup_cons → z0q, pairwise_cons → zz5, pairwise_iff_getElem → z1t, perm_append_comm → z1q, perm_append_comm_assoc → zz2, perm_middle → z1l, range → zzh, replicate → zzi, set → zzb, size_toArray → z00, take_add_one → z05, take_append_drop → z0h, take_append_of_le_length → z2j, take_length → z0r, take_of_length_le → z0v
open _root_.Nat renaming add_zero → z0y, beq → zyw, ble → zzc, eq_of_beq_eq_true → zy1, le_of_ble_eq_true → zz0, le_refl → zy9, le_succ → z0i, lt_or_ge → z0o, zero_add → zze, zero_le → zzv
open _root_.Option renaming getD_some → zz8, isSome_iff_exists → z2k, isSome_some → z3h, map_eq_some_iff → z0e, map_some → z0g
open _root_.Go.Result renaming andThen_ok → zza
section
variable {P : Program} {D D' : Fz} {ρ ρ' : List Loc} {m m' : Mem} {chs C : List zac} {h h' : zaf} {T : List Value} {t : List V} {ro hr : List Nat}
theorem refs_lt : (∀ {v : Value} {x : V}, Rp D ρ v x → ∀ b ∈ zae x, b < ρ.length) ∧ (∀ {v : List Value} {x : List V}, RpL D ρ v x → ∀ b ∈ zag x, b < ρ.length) ∧ (∀ {v : List Value} {x : List V}, RpC D ρ v x → ∀ b ∈ zag x, b < ρ.length) := by
 have lt : ∀ {b : Nat} {L : Loc}, ρ[b]? = some L → b < ρ.length := fun h => (zyz.1 h).1
 have one : ∀ {b : Nat} {L : Loc}, ρ[b]? = some L → ∀ c ∈ [b], c < ρ.length := fun h c hc => by rw [z0s.1 hc]; exact lt h
 have key := @Rp.rec D ρ (fun v x _ => ∀ b ∈ zae x, b < ρ.length) (fun vs xs _ => ∀ b ∈ zag xs, b < ρ.length) (fun vs xs _ => ∀ b ∈ zag xs, b < ρ.length)
  (fun _ => by simp [zae]) (fun h => one h) (fun h _ _ _ => one h) (fun h _ _ => one h) (fun _ _ _ => by simp [zae]) (fun h => one h) (fun _ => by simp [zae]) (fun h => one h) (by simp [zae]) (by simp [zae])
  (fun _ _ i1 i2 => by intro b hb; simp only [zae, zy6] at hb; exact hb.elim (i1 b) (i2 b)) (fun _ i => i) (fun _ i => i) (by simp [zae]) (fun h => one h) (fun h _ _ _ _ _ _ => one h) (fun h _ _ => one h) (by simp [zag])
  (fun _ _ i1 i2 => by intro b hb; simp only [zag, zy6] at hb; exact hb.elim (i1 b) (i2 b)) (by simp [zag]) (fun _ _ _ i1 i2 => by intro b hb; simp only [zag, zy6] at hb; exact hb.elim (i1 b) (i2 b))
  (fun _ _ i => by intro b hb; simp only [zag, zae, zz7] at hb; exact i b hb)
 have keyL := @RpL.rec D ρ (fun v x _ => ∀ b ∈ zae x, b < ρ.length) (fun vs xs _ => ∀ b ∈ zag xs, b < ρ.length) (fun vs xs _ => ∀ b ∈ zag xs, b < ρ.length)
  (fun _ => by simp [zae]) (fun h => one h) (fun h _ _ _ => one h) (fun h _ _ => one h) (fun _ _ _ => by simp [zae]) (fun h => one h) (fun _ => by simp [zae]) (fun h => one h) (by simp [zae]) (by simp [zae])
  (fun _ _ i1 i2 => by intro b hb; simp only [zae, zy6] at hb; exact hb.elim (i1 b) (i2 b)) (fun _ i => i) (fun _ i => i) (by simp [zae]) (fun h => one h) (fun h _ _ _ _ _ _ => one h) (fun h _ _ => one h) (by simp [zag])
  (fun _ _ i1 i2 => by intro b hb; simp only [zag, zy6] at hb; exact hb.elim (i1 b) (i2 b)) (by simp [zag]) (fun _ _ _ i1 i2 => by intro b hb; simp only [zag, zy6] at hb; exact hb.elim (i1 b) (i2 b))
  (fun _ _ i => by intro b hb; simp only [zag, zae, zz7] at hb; exact i b hb)
 have keyC := @RpC.rec D ρ (fun v x _ => ∀ b ∈ zae x, b < ρ.length) (fun vs xs _ => ∀ b ∈ zag xs, b < ρ.length) (fun vs xs _ => ∀ b ∈ zag xs, b < ρ.length)
  (fun _ => by simp [zae]) (fun h => one h) (fun h _ _ _ => one h) (fun h _ _ => one h) (fun _ _ _ => by simp [zae]) (fun h => one h) (fun _ => by simp [zae]) (fun h => one h) (by simp [zae]) (by simp [zae])
  (fun _ _ i1 i2 => by intro b hb; simp only [zae, zy6] at hb; exact hb.elim (i1 b) (i2 b)) (fun _ i => i) (fun _ i => i) (by simp [zae]) (fun h => one h) (fun h _ _ _ _ _ _ => one h) (fun h _ _ => one h) (by simp [zag])
  (fun _ _ i1 i2 => by intro b hb; simp only [zag, zy6] at hb; exact hb.elim (i1 b) (i2 b)) (by simp [zag]) (fun _ _ _ i1 i2 => by intro b hb; simp only [zag, zy6] at hb; exact hb.elim (i1 b) (i2 b))
  (fun _ _ i => by intro b hb; simp only [zag, zae, zz7] at hb; exact i b hb)
 exact ⟨fun h => key h, fun h => keyL h, fun h => keyC h⟩
mutual
theorem zpx : ∀ x : V, zci id x = x
 | .r b o => rfl
 | .e b s k o => rfl
 | .g b o w k => rfl
 | .w b => rfl
 | .m b => rfl
 | .y b => rfl
 | .v b sz l n c => rfl
 | .sl b o n => rfl
 | .f g a c => by simp only [zci]; rw [zdp a, zdp c]
 | .a l => by simp only [zci]; rw [zdp l]
 | .t l => by simp only [zci]; rw [zdp l]
 | .u x => rfl
 | .q c o => rfl
 | .c s r => rfl
 | .nm => rfl
 | .nl _ => rfl
 | .n k w l => rfl
 | .z => rfl
theorem zdp : ∀ x : List V, zd0 id x = x
 | [] => rfl
 | v :: l => by simp only [zd0]; rw [zpx v, zdp l]
end
theorem Ent.shrink {D0 : Fz} {s : List Loc} {L0 : Loc} {ab : AB} {ch ch0 : zac} (h0 : Ent D0 ρ L0 ab ch0) (he : Ent D (ρ ++ s) L ab ch) : Ent D ρ L ab ch := by
 have hf : ∀ b ∈ za9 ab, b < ρ.length := by
  cases h0 with
  | c hc => exact refs_lt.2.2 hc
  | cw _ _ hc => exact refs_lt.2.2 hc
  | _ => simp [za9]
 have := he.ren (f := id) (ρ' := ρ) fun b hb L hL => by rw [zy7 (hf b hb)] at hL; exact hL
 cases ab with
 | c l => simp only [zo2, zdp] at this; exact this
 | cw _ _ _ l => simp only [zo2, zdp] at this; exact this
 | _ => exact this
theorem zoa : ∀ {l : List Nat} {m : Mem} {b : Nat}, b < m.length → mg (zcq m l) b = if b ∈ l then .x else mg m b
 | [], m, b, h => by simp [zcq]
 | j :: l, m, b, h => by
   simp only [zcq]
   rw [zoa (by rw [zbz]; exact h)]
   by_cases hbj : j = b
   · subst hbj; rw [zw2 h]; simp
   · rw [zbe hbj]
     have : b ≠ j := Ne.symm hbj
     simp [this]
theorem zgv : ∀ {a c : Mem}, zf6 a c = true → ∀ b, mg a b ≠ .x → mg c b ≠ .x
 | [], c, h, b, hb => absurd rfl hb
 | y1 :: a, [], h, b, hb => by cases y1 <;> simp [zf6] at h
 | y1 :: a, y :: c, h, b, hb => by
   have h2 : zf6 a c = true := by cases y1 <;> cases y <;> first | exact h | (simp [zf6] at h)
   cases b with
   | zero =>
     intro e
     simp only [mg] at e hb
     subst e
     cases y1 <;> first | exact hb rfl | simp [zf6] at h
   | succ b => exact zgv h2 b hb
theorem roOf_mem : ∀ {m : Mem} {k b : Nat}, b ∈ zuh m k ↔ ∃ i, b = k + i ∧ mg m i ≠ .x
 | [], k, b => by simp [zuh, mg]
 | y1 :: m, k, b => by
   have step : (∃ i, b = k + i ∧ mg (y1 :: m) i ≠ .x) ↔ (b = k ∧ y1 ≠ .x) ∨ ∃ i, b = k + 1 + i ∧ mg m i ≠ .x := by
    constructor
    · rintro ⟨i, hi, hx⟩
      cases i with
      | zero => exact .inl ⟨by omega, hx⟩
      | succ i => exact .inr ⟨i, by omega, hx⟩
    · rintro (⟨h1, h2⟩ | ⟨i, h1, h2⟩)
      · exact ⟨0, by omega, h2⟩
      · exact ⟨i + 1, by omega, h2⟩
   rw [step, ← roOf_mem (m := m) (k := k + 1)]
   cases y1 <;> simp [zuh]
theorem zj8 : ∀ {a b : List zac}, a.length ≤ b.length → (∀ (i : Nat) (c : zac), a[i]? = some c → c = [] ∨ b[i]? = some c) → a.flatten.Sublist b.flatten
 | [], b, _, _ => by simp
 | x :: a, [], h, _ => by simp at h
 | x :: a, y :: b, h, hh => by
   rw [zzd, zzd]
   refine List.Sublist.append ?_ (zj8 (by simpa using h) fun i c hc => hh (i + 1) c (by simpa using hc))
   rcases hh 0 x rfl with rfl | h0
   · exact List.nil_sublist _
   · simp at h0; rw [h0]; exact List.Sublist.refl _
theorem zxt {md : List Nat} {T' : List Value} : ∀ {t : List V} {T : List Value} {T' : List Value} {k : Nat}, RpL D ρ T t → T'.length = T.length → (∀ i, k + i ∉ md → ze5 T' i = ze5 T i) → RpL D ρ T' (zxu md t k)
 | [], T, T', k, F, hl, hs => by
   cases F
   have : T' = [] := z0p hl
   subst this
   exact .nil
 | x :: t, T, [], k, F, hl, hs => by cases F; simp at hl
 | x :: t, T, v' :: T', k, F, hl, hs => by
   cases F with
   | cons a b =>
     simp only [zxu]
     refine .cons ?_ (zxt (T' := T') b (by simpa using hl) fun i hi => ?_)
     · cases hc : md.contains k with
       | true => exact .z
       | false =>
         have := hs 0 (by simpa using hc)
         simp only [ze5] at this
         rw [this]; exact a
     · have := hs (i + 1) (by rw [show k + (i + 1) = k + 1 + i by omega]; exact hi)
       simpa [ze5] using this
theorem setS_S : ∀ {sl : List (Nat × RP)} {xs : List V} {T : List Value} {t : List V}, RpL D ρ T t → RpL D ρ (sl.map fun p => ze5 T p.1) xs → RpL D ρ T (setS t sl xs)
 | [], xs, T, t, F, hx => by cases xs <;> exact F
 | p :: sl, xs, T, t, F, hx => by
   cases hx with
   | cons a b =>
     simp only [setS]
     have := F.set p.1 a
     rw [zsc] at this
     exact setS_S this b
theorem zuy (F : RpL D ρ T t) : ∀ (sl : List (Nat × RP)), RpL D ρ (sl.map fun p => ze5 T p.1) (sl.map fun p => zhv t p.1)
 | [] => .nil
 | p :: sl => .cons (F.get p.1) (zuy F sl)
theorem zvz {H : Hint} {md : List Nat} {hp : zaf} (hd : disj (hr ++ ro) (H.tk t m) = true) (hbl : zff m.length (H.bl.map (·.1)) = true) {C0 : List zac} (M : SAt D ρ m chs C0 hp) (F : RpL D ρ T t) {D' : Fz} {t' : List V} {T' : List Value}
 (n : Nx (zuh (H.base t m) 0 ++ ro) hr D ρ m chs D' ρ' m' chs') (M' : SAt D' ρ' m' chs' C h') (F' : RpL D' ρ' T' t') (ag : Agr md T T') {os : List It} {mR : Mem} (hpk : H.pk (H.base t m).length t' m' = some (os, mR)) (hal : zf6 (H.base t m) mR = true) :
 ∃ ρ2 c2, Nx (zuh (H.base t m) 0 ++ ro) hr D ρ m chs D' ρ2 (H.st md t m os).2 c2 ∧ SAt D' ρ2 (H.st md t m os).2 c2 C h' ∧ RpL D' ρ2 T' (H.st md t m os).1 ∧ OkL H.ps os := by
 have hbase : (H.base t m).length = m.length := zfx _ _
 generalize hm0 : H.base t m = m0 at *
 have hN : m0.length = m.length := hbase
 have hm0g : ∀ b, b < m.length → mg m0 b = if b ∈ H.tk t m then .x else mg m b := fun b hb => by rw [← hm0]; exact zoa hb
 obtain ⟨s, rfl⟩ := n.pre
 unfold Hint.pk at hpk
 split at hpk
 · rename_i os1 mm1 hV
   split at hpk
   · rename_i os2 mm2 hB
     cases hpk
     have hvals := zuy F' H.sl
     obtain ⟨tk1, c3, M3, o1, k1, kk1⟩ := pkR_S hV M' hvals
     obtain ⟨tk2, c4, M4, o2, k2, kk2⟩ := zp0 hB M3
     have hk : ∀ b, mg m0 b ≠ .x → mg mR b = mg m' b := fun b hb => by
      have h1 := zgv hal b hb
      rcases zch hB b with h2 | h2
      · rcases zfr hV b with h3 | h3
        · exact h2.trans h3
        · exact absurd (h2.trans h3) h1
      · exact absurd h2 h1
     have hmm : ∀ b, b < m.length → mg m0 b ≠ .x → mg m0 b = mg m b ∧ mg m' b = mg m b := fun b hb hx => by
      have h1 := hm0g b hb
      refine ⟨?_, n.same b ?_ hb⟩
      · split at h1
        · exact absurd h1 hx
        · exact h1
      · rw [inL_iff]; simp only [zy6]; exact .inr (.inl (roOf_mem.2 ⟨b, by omega, hx⟩))
     -- the chunks of what was there
     have hlenR : mR.length = (ρ ++ s).length := M4.len.symm
     have hmR : m.length ≤ mR.length := by rw [hlenR, zzl, M.len]; omega
     let c0 : List zac := (zzh m.length).map fun b => match mg m0 b with | .x => [] | _ => (c4[b]?).getD []
     have hc0 : ∀ b, b < m.length → c0[b]? = some (match mg m0 b with | .x => [] | _ => (c4[b]?).getD []) := fun b hb => by
      simp only [c0, zy5]
      rw [List.getElem?_range hb]; rfl
     have hc0l : c0.length = m.length := by simp [c0]
     have hc4 : ∀ b, b < m.length → c4[b]? = some ((c4[b]?).getD []) := fun b hb => by
      have : b < c4.length := by rw [M4.lch]; omega
      rw [zy0 this]; rfl
     have S0 : St D' (c0 ++ (tk1 ++ (tk2 ++ C))) h' := by
      have hsub : c0.flatten.Sublist c4.flatten := zj8 (by rw [hc0l, M4.lch]; exact hmR) fun i c hc => by
       have hi : i < m.length := by rw [← hc0l]; exact (zyz.1 hc).1
       rw [hc0 i hi] at hc
       cases hc
       split
       · exact .inl rfl
       · exact .inr (hc4 i hi)
      have S1 : St D' (c0 ++ (tk2 ++ (tk1 ++ C))) h' := M4.st.sublist (by
       simp only [zzs]
       exact hsub.append (List.Sublist.refl _))
      refine S1.perm ?_
      simp only [zzs]
      exact (zz2 _ _ _).append_left _
     have M0 : SAt D' ρ m0 c0 (tk1 ++ (tk2 ++ C)) h' := by
      refine ⟨by rw [hN]; exact M.len, by rw [hN]; exact hc0l, fun i L ab ch h1 h2 h3 => ?_, S0⟩
      have hi : i < m.length := by rw [← hN]; exact (zyz.1 h2).1
      rw [znz (by rw [hN]; exact hi)] at h2
      rw [hc0 i hi] at h3
      cases h2; cases h3
      split
      · rename_i hx; rw [hx]; exact .x
      · rename_i hx
        obtain ⟨e1, e2⟩ := hmm i hi hx
        have h4 := M4.ent i L (mg mR i) _ (zai h1) (znz (by omega)) (hc4 i hi)
        rw [hk i hx, e2] at h4
        have hρ : i < ρ.length := by rw [M.len]; exact hi
        have hch : i < chs.length := by rw [M.lch]; exact hi
        have h0 := M.ent i _ _ _ (zy0 hρ) (znz hi) (zy0 hch)
        rw [e1]
        exact h0.shrink h4
     have hR : Ren id m0.length (ρ ++ s) ρ := fun b hb L hL => by
      rw [zy7 (by rw [M.len, ← hN]; exact hb)] at hL; exact hL
     obtain ⟨s1, ns, cn, e1, e2, M5, r6⟩ := reR_S (r := os2) o1 M0 hR
     have hbl := zbx hbl
     obtain ⟨s2, c7, M7, g1, g2⟩ := reB_S (f := id) (bs := H.bl.map (·.1)) o2 M5 (hR.app s1) (by simp) (fun i j b hj hb => by
      rw [hj] at hb; cases hb
      have hlt := hbl j (zy4 hj)
      refine ⟨by rw [zzl]; omega, fun L hL => ?_⟩
      rw [zy7 (by rw [M.len]; exact hlt)] at hL
      exact zai hL)
     have hst : (H.st md t m (os1 ++ os2)).2 = reB id (m0 ++ ns) (H.bl.map (·.2)) (H.bl.map (·.1)) os2 := by
      simp only [Hint.st, hm0, e1, e2]
     have hst1 : (H.st md t m (os1 ++ os2)).1 = setS (zxu md t 0) H.sl (reR id m0 (H.sl.map (·.2)) (os1 ++ os2)).1 := by
      simp only [Hint.st, hm0]
     rw [hst, hst1]
     have hd := zma hd
     -- what is alive at the head is as it was
     have hal2 : ∀ b, b < m.length → b ∉ H.bl.map (·.1) → mg (reB id (m0 ++ ns) (H.bl.map (·.2)) (H.bl.map (·.1)) os2) b = mg m0 b ∧ c7[b]? = c0[b]? := fun b hb hnb => by
      obtain ⟨h1, h2⟩ := g2 b (by rw [zzl]; omega) hnb
      rw [h1, h2, zki (by omega), zy7 (by rw [hc0l]; exact hb)]
      exact ⟨rfl, rfl⟩
     have htkb : ∀ b, b ∈ H.bl.map (·.1) → b ∈ H.tk t m := fun b hb => by
      obtain ⟨p, hp, rfl⟩ := zzu.1 hb
      simp only [Hint.tk, zy6]
      refine .inr (z1m.2 ⟨p, hp, ?_⟩)
      unfold tkB
      split
      · split <;> simp
      · simp
     refine ⟨ρ ++ (s1 ++ s2), c7, ⟨n.le, ⟨_, rfl⟩, fun b hb hlt => ?_, fun b hb hlt => ?_, by rw [zzl] at g1; omega⟩, by rw [← zy8]; exact M7, ?_, ?_⟩
     · have hnt : b ∉ H.tk t m := fun hm => hd b hm (by simp [inL_iff.1 hb])
       have hnb : b ∉ H.bl.map (·.1) := fun hm => hnt (htkb b hm)
       rw [(hal2 b hlt hnb).2, hc0 b hlt]
       have hx := hm0g b hlt
       rw [if_neg hnt] at hx
       have h1 := n.keep b hb hlt
       have hch : b < chs.length := by rw [M.lch]; exact hlt
       have hρ : b < ρ.length := by rw [M.len]; exact hlt
       split
       · rename_i h3
         have h0 := M.ent b _ _ _ (zy0 hρ) (znz hlt) (zy0 hch)
         rw [← hx, h3] at h0
         rw [zy0 hch]
         generalize chs[b] = c at h0
         cases h0; rfl
       · rename_i h3
         have h4 := zgv hal b h3
         have h5 : mg mm1 b ≠ .x := by
          rcases zch hB b with h6 | h6
          · rw [← h6]; exact h4
          · exact absurd h6 h4
         rw [← hc4 b hlt, kk2 b h4, kk1 b h5, h1]
     · rcases zy6.1 (inL_iff.1 hb) with hb | hb
       · have hnt : b ∉ H.tk t m := fun hm => hd b hm (by simp [hb])
         rw [(hal2 b hlt (fun hm => hnt (htkb b hm))).1, hm0g b hlt, if_neg hnt]
       · rcases zy6.1 hb with hb | hb
         · obtain ⟨i, hi, hx⟩ := roOf_mem.1 hb
           have : i = b := by omega
           subst this
           have hnt : i ∉ H.tk t m := fun hm => by rw [hm0g i hlt, if_pos hm] at hx; exact hx rfl
           rw [(hal2 i hlt (fun hm => hnt (htkb i hm))).1, (hmm i hlt hx).1]
         · have hnt : b ∉ H.tk t m := fun hm => hd b hm (by simp [hb])
           rw [(hal2 b hlt (fun hm => hnt (htkb b hm))).1, hm0g b hlt, if_neg hnt]
     · refine setS_S (zxt (T' := T') ((F.mono n.le (s1 ++ s2))) ag.len fun i hi => ?_) (by rw [← zy8]; exact r6.mono (.refl _) s2)
       rw [zze] at hi
       exact ag.same i hi
     · unfold Hint.ps
       exact k1.app k2
   · cases hpk
 · cases hpk
end
section
variable {P : Program} {D D' : Fz} {ρ ρ' : List Loc} {m m' : Mem} {chs C : List zac} {h h' : zaf} {T : List Value} {t : List V} {ro hr : List Nat}
def dch (ds : List Nat) : List zac := ds.map fun b => [(b, .deferred (some []))]
theorem SAt.cput {l : Nat} {o : Obj} (M : SAt D ρ m chs ([(l, o)] :: C) h) (o' : Obj) : SAt D ρ m chs ([(l, o')] :: C) (h.setIfInBounds l o') := by
 have S := M.st.unmid
 have hl := S.get (zzx _)
 have hlt := zbv hl
 refine M.mono (.refl D) (S.upd (c' := [(l, o')]) ⟨by simp, fun x hx hn => ?_⟩ (by simp [hlt]) (by simp) (by simp)).mid
 simp only [zzj, z1n, z0s] at hn
 rw [Array.getElem?_setIfInBounds_ne (Ne.symm hn)]
theorem SAt.cdrop {c : zac} (M : SAt D ρ m chs (c :: C) h) : SAt D ρ m chs C h := M.mono (.refl D) M.st.unmid.drop
theorem SAt.cpush (M : SAt D ρ m chs C h) (o : Obj) : SAt D ρ m chs ([(h.size, o)] :: C) (h.push o) :=
 M.mono (.refl D) (M.st.nil.upd (c' := [(h.size, o)]) (KB.push _ _ _) (by simp) (by simp) (by simp)).mid
theorem zw8 {fn : Func} {tmps : Array Value} {R : Ending → World → Prop} {n : Nat} : ∀ (ds : List Nat) (w : World), SAt D ρ m chs (dch ds ++ C) w.heap → (∀ w', SAt D ρ m chs C w'.heap → Same w w' → ∃ v, (results fn tmps).run P w' = .ok v w' ∧ R (.returned v) w') →
 LeavesInM (FW none) n P fn tmps R (ds.map mark) .returning w
 | [], w, M, hK => hK w M (.refl w)
 | b :: ds, w, M, hK => by
   have M' : SAt D ρ m chs ([(b, .deferred (some []))] :: (dch ds ++ C)) w.heap := M
   refine ⟨by simp, .inl ⟨b, w.putObj b (.deferred none), rfl, run_takeDeferred (M'.st.unmid.get (zzx _)), ?_⟩⟩
   exact zw8 ds _ ((M'.cput (.deferred none)).cdrop) fun w' h1 h2 => hK w' h1 ((Same.put _ _ _).trans h2)
structure UpY (md : List Nat) (T : List Value) (w : World) (ro hr : List Nat) (D : Fz) (ρ : List Loc) (m : Mem) (chs C : List zac) (K : List V → Mem → Prop) (a' : Act) (w' : World) : Prop where
 sm : Same w w'
 ag : Agr md T a'.tmps.toList
 ex : ∃ ds D' ρ' m' chs' t', a'.defers = ds.map mark ∧ Nx ro hr D ρ m chs D' ρ' m' chs' ∧ SAt D' ρ' m' chs' (dch ds ++ C) w'.heap ∧ RpL D' ρ' a'.tmps.toList t' ∧ K t' m'
def zuf (Q : zgx) (md : List Nat) (T : List Value) (w : World) (ro hr : List Nat) (D : Fz) (ρ : List Loc) (m : Mem) (chs C : List zac) : Exit → Act → World → Prop
 | .normal, a', w' => UpY md T w ro hr D ρ m chs C (Q .nrm) a' w'
 | .exit id, a', w' => UpY md T w ro hr D ρ m chs C (Q (.ext id)) a' w'
 | .ret, a', w' => UpY md T w ro hr D ρ m chs C (Q .ret) a' w'
 | _, _, _ => False
theorem Nx.weakR {rx : List Nat} {D' : Fz} (n : Nx (rx ++ ro) hr D ρ m chs D' ρ' m' chs') : Nx ro hr D ρ m chs D' ρ' m' chs' where
 le := n.le
 pre := n.pre
 keep := n.keep
 same b h1 h2 := n.same b (by rw [inL_iff] at h1 ⊢; simp at h1 ⊢; rcases h1 with h1 | h1 <;> simp [h1]) h2
 len := n.len
theorem UpY.mono {md md' : List Nat} {K' : List V → Mem → Prop} (h : UpY md T w ro hr D ρ m chs C K a' w') (hm : ∀ i ∈ md, i ∈ md') (hK : ∀ t m, K t m → K' t m) : UpY md' T w ro hr D ρ m chs C K' a' w' where
 sm := h.sm
 ag := h.ag.mono hm
 ex := let ⟨ds, D', ρ', m', c', t', e, n, M, F, k⟩ := h.ex; ⟨ds, D', ρ', m', c', t', e, n, M, F, hK _ _ k⟩
theorem UpY.weakR {rx md : List Nat} (h : UpY md T w (rx ++ ro) hr D ρ m chs C K a' w') : UpY md T w ro hr D ρ m chs C K a' w' where
 sm := h.sm
 ag := h.ag
 ex := let ⟨ds, D', ρ', m', c', t', e, n, M, F, k⟩ := h.ex; ⟨ds, D', ρ', m', c', t', e, n.weakR, M, F, k⟩
theorem UpY.after {md md' mD : List Nat} {w1 : World} {a1 : Act} {D1 : Fz} {ρ1 : List Loc} {m1 : Mem} {c1 : List zac} {K' : List V → Mem → Prop} (s1 : Same w w1) (g1 : Agr md T a1.tmps.toList) (n1 : Nx ro hr D ρ m chs D1 ρ1 m1 c1)
 (h2 : UpY md' a1.tmps.toList w1 ro hr D1 ρ1 m1 c1 C K' a' w') (hm : ∀ i ∈ md, i ∈ mD) (hm' : ∀ i ∈ md', i ∈ mD) : UpY mD T w ro hr D ρ m chs C K' a' w' where
 sm := s1.trans h2.sm
 ag := (g1.mono hm).trans (h2.ag.mono hm')
 ex := let ⟨ds, D', ρ', m', c', t', e, n, M, F, k⟩ := h2.ex; ⟨ds, D', ρ', m', c', t', e, n1.trans n, M, F, k⟩
theorem Stab.nx (hX : Stab X) {D' : Fz} (n : Nx ro hr D ρ m chs D' ρ' m' chs') (x : X D ρ) : X D' ρ' := by
 obtain ⟨s, rfl⟩ := n.pre; exact hX s x n.le
def YOk (P : Program) (Y : YC) (X : Fz → List Loc → Prop) : Prop :=
 match Y with
 | .it b f => ∀ {ro hr : List Nat} {args : List V} {m : Mem} {KS : V → Mem → Prop} {D : Fz} {ρ : List Loc} {chs C : List zac} {vs : List Value} {L : Loc} {w : World}, X D ρ → f ro hr args m KS → SAt D ρ m chs C w.heap → RpL D ρ vs args → ρ[b]? = some L →
  ∃ fn tmps assign body, (Instr.yield L.b vs.toArray).run P w = .ok (.round L.b fn tmps assign body) w ∧
    RoundIn (FW none) 0 P L.b fn tmps assign body w fun e w' => ∃ v, e = .returned v ∧ zcx ro hr D ρ m chs C KS v w'.heap ∧ Same w w'
 | _ => True
theorem YOk.sub (h : YOk P Y X) : YOk P Y.sub X := by
 cases Y <;> first | exact h | trivial
def YC.isRd : YC → Bool
 | .rd => true
 | _ => false
theorem YC.sub_rd (Y : YC) : Y.sub.isRd = false := by cases Y <;> rfl
def zo1 (P : Program) (self : zq2) : Prop :=
 ∀ {Y : YC} {X : Fz → List Loc → Prop} {fi : Nat} {ro hr : List Nat} {c : Code} {Q : zgx} {t : List V} {m : Mem} {D : Fz} {ρ : List Loc} {chs C : List zac} {a : Act} {w : World}, Stab X → YOk P Y X → Y.isRd = false → X D ρ → self Y fi ro hr c Q t m → SAt D ρ m chs C w.heap → RpL D ρ a.tmps.toList t → a.defers = [] →
   c.wpIn (FW none) 0 P (zuf Q (zcc c) a.tmps.toList w ro hr D ρ m chs C) a w
theorem zv0 {tmps : Array Value} (ht : tmps.toList = T) (F : RpL D ρ T t) (M : SAt D ρ m chs C h) : ∀ {l : List ResultVar} {K : List V → Prop}, resL P l t m K →
 ∃ vs xs, K xs ∧ RpL D ρ vs xs ∧ ∀ w : World, w.heap = h → (l.mapM (rvS tmps)).run P w = .ok vs w
 | [], K, hh => ⟨[], [], hh, .nil, fun w _ => by simp⟩
 | .tmp i :: l, K, hh => by
   simp only [resL] at hh
   obtain ⟨vs, xs, hK, hv, hr⟩ := zv0 ht F M hh
   refine ⟨_, _, hK, .cons (F.get i) hv, fun w hw => ?_⟩
   have he : tmps.getD i undef = ze5 T i := by rw [← ht, zfc]; simp [z1o]
   have h1 : (rvS tmps (.tmp i)).run P w = .ok (ze5 T i) w := by rw [← he]; rfl
   simp only [z1x, Sem.run_bind, h1, hr w hw, zza]
   rfl
 | .cell i S :: l, K, hh => by
   simp only [resL] at hh
   obtain ⟨bb, oo, v, x, hv, hK, hvx, hrun⟩ := zvn hh M (F.get i) (bs := zae (zhv t i)) fun b hb => inL_iff.2 hb
   obtain ⟨vs, xs, hK, hvs, hr⟩ := zv0 ht F M hK
   refine ⟨_, _, hK, .cons hvx hvs, fun w hw => ?_⟩
   have he : tmps.getD i undef = .pointer (some ⟨bb, oo, none⟩) := by rw [← hv, ← ht, zfc]; simp [z1o]
   have h3 : (rvS tmps (.cell i S)).run P w = .ok v w := by
    show Sem.run P (do loadVar S (← asAddr (tmps.getD i undef))) w = _
    rw [he]
    simp only [asAddr, Sem.run_bind, Sem.run_pure, zza, hrun w (M.hs _ hw)]
   simp only [z1x, Sem.run_bind, h3, hr w hw, zza]
   rfl
theorem zls : ∀ {Ts : List TypeId} {gc : Bool} {vs : List Value} {xs : List V}, RpL D ρ vs xs → RpL D ρ vs (zto P gc Ts xs)
 | [], gc, vs, xs, h => by cases xs <;> exact h
 | S :: Ts, gc, vs, [], h => h
 | S :: Ts, gc, vs, x :: xs, h => by
   cases h with
   | cons a b =>
     simp only [zto]
     cases gc
     · exact .cons (datV_S (zea a)) (zls b)
     · exact .cons (zea a) (zls b)
theorem one_S {xs : List V} (hv : RpL D ρ vs xs) : Rp D ρ (one vs) (oneV xs) := by
 cases hv with
 | nil => exact .t .nil
 | cons a b =>
   cases b with
   | nil => exact a
   | cons b c => exact .t (.cons a (.cons b c))
theorem ret_S {tmps : Array Value} (ht : tmps.toList = T) (F : RpL D ρ T t) (M : SAt D ρ m chs C h) (hh : resL P fn.results.toList t m fun vs => KS (oneV (zto P gc fn.resultTypes.toList vs)) m) :
 ∃ v x, KS x m ∧ Rp D ρ v x ∧ ∀ w : World, w.heap = h → (results fn tmps).run P w = .ok v w := by
 obtain ⟨vs, xs, hK, hv, hr⟩ := zv0 ht F M hh
 refine ⟨_, _, hK, one_S (zls hv), fun w hw => ?_⟩
 have hf : results fn tmps = (fn.results.mapM (rvS tmps) >>= fun vs => pure (if h : vs.size = 1 then vs[0] else .tuple vs)) := by
  unfold results
  refine congrArg (· >>= _) (congrArg (Array.mapM · fn.results) (funext fun x => ?_))
  cases x <;> rfl
 have : (fn.results.mapM (rvS tmps)).run P w = .ok vs.toArray w := by
  rw [z2x, Sem.run_map, hr w hw]; rfl
 rw [hf, Sem.run_bind]
 rw [this]
 show Sem.run P (pure (if h : vs.toArray.size = 1 then vs.toArray[0] else .tuple vs.toArray)) w = _
 rw [zr0]
 rfl
theorem rep_z : ∀ n : Nat, RpL D ρ (zzi n undef) (zzi n .z)
 | 0 => .nil
 | n + 1 => .cons .z (rep_z n)
theorem frame_S (ha : RpL D ρ vs args) : RpL D ρ (vs ++ zzi (fn.ntmps - vs.length) undef) (zf1 P gc fn args) := by
 unfold zf1
 rw [ha.len']
 exact (zls ha).app (rep_z _)
theorem zyf (hself : zo1 P self) (hX : Stab X) (hY : YOk P Y X) (hYr : Y.isRd = false) (xx : X D ρ) {fi : FuncId} {c : Code} (hf : P.funcs[f]? = some fn) (hc : fn.body = some c) (hn : (fn.name == "runtime.NumGoroutine") = false) 
 (hs : self Y fi ro hr c (retG P gc fn KS) (zf1 P gc fn args) m) (M : SAt D ρ m chs C h) (ha : RpL D ρ vs args) : Run P f vs h (zcx ro hr D ρ m chs C KS) := by
 refine ⟨⟨fn, hf, hn, by simp [hc]⟩, fun w hw => ?_⟩
 subst hw
 refine (callsIn_wide (n := 0)).1 (callsIn_of_wp_marks (F := FW none) hf hc trivial ?_)
 have hl : (vs.toArray ++ Array.replicate (fn.ntmps - vs.toArray.size) undef : Array Value).toList = vs ++ zzi (fn.ntmps - vs.length) undef := by simp
 refine wpIn_mono (hself (a := { tmps := vs.toArray ++ Array.replicate (fn.ntmps - vs.toArray.size) undef, defers := [] }) hX hY hYr xx hs M (by rw [hl]; exact frame_S ha) rfl) fun e a' w' hq => ?_
 have fin : ∀ {md T}, UpY md T w ro hr D ρ m chs C (retG P gc fn KS .ret) a' w' → LeavesInM (FW none) 0 P fn a'.tmps (fun e w' => ∃ v, e = .returned v ∧ zcx ro hr D ρ m chs C KS v w'.heap ∧ Same w w') a'.defers .returning w' := by
  intro md T hu
  obtain ⟨ds, D', ρ', m', c', t', e, n, M', F', k⟩ := hu.ex
  rw [e]
  refine zw8 ds w' M' fun w2 M2 s2 => ?_
  obtain ⟨v, x, hK, hv, hr'⟩ := ret_S rfl F' M2 k
  exact ⟨v, hr' w2 rfl, v, rfl, ⟨D', ρ', m', c', x, n, M2, hv, hK⟩, hu.sm.trans s2⟩
 cases e with
 | normal => exact fin hq
 | ret => exact fin hq
 | exit id =>
   obtain ⟨ds, D', ρ', m', c', t', e, n, M', F', k⟩ := hq.ex
   exact k.elim
 | _ => exact hq.elim
theorem yield_S (hY : YOk P Y X) (xx : X D ρ) {o : Oper} {b : Nat} {a : Act} (hy : zkx t o = some (b, args)) (hs : Y.h ro hr b args m KS) (M : SAt D ρ m chs C w.heap) (F : RpL D ρ a.tmps.toList t) {r : Option Nat} 
 {next : Act → World → Prop} {Q : Exit → Act → World → Prop} (hn : ∀ v w', zcx ro hr D ρ m chs C KS v w'.heap → Same w w' → next (a.put o.dst v) w') : o.wpIn (FW r) n P a w next Q := by
 unfold YC.h at hs
 split at hs
 · rename_i b' f
   obtain ⟨hb0, hs2⟩ := zaa hs
   have hb := zy1 hb0
   subst hb
   unfold zkx at hy
   split at hy
   · rename_i c hc
     have hd' : ∀ c', o.op ≠ .defer c' := fun c' e => by rw [hc] at e; cases e
     split at hy
     · rename_i fo hf
       split at hy
       · rename_i b2 he
         cases hy
         have hv := zcf F fo
         rw [he] at hv
         generalize hev : ev a.tmps.toList fo = vf at hv
         cases hv with
         | @y _ LL hL =>
           obtain ⟨fn, tmps, assign, body, hy, hR⟩ := hY xx hs2 M (zqp F c.args.toList) hL
           refine ⟨fun _ _ => trivial, ?_⟩
           rw [Oper.semAt_eq _ _ _ hd', zbb]
           have hx : (execOp (ev a.tmps.toList) o).run P w = .ok (.round LL.b fn tmps assign body) w := by
            unfold execOp
            rw [hc]
            simp only [resolve, hf, hev, Deferred.ofValue, Sem.run_bind, Sem.run_pure, zza, invoke]
            have : (#[] ++ c.args.map (ev a.tmps.toList) : Array Value) = (c.args.toList.map (ev a.tmps.toList)).toArray := by apply Array.ext'; simp
            rw [this]; exact hy
           rw [hx]
           refine ⟨fun hx => (by cases hx), RoundIn.mono (R := fun e w' => ∃ v, e = .returned v ∧ zcx ro hr D ρ m chs C KS v w'.heap ∧ Same w w') ⟨hR.1, fun c cs hr => hR.2 c cs (room_wide _)⟩ fun e w' he => ?_⟩
           obtain ⟨v, rfl, hK, hS⟩ := he
           exact hn v w' hK hS
       · cases hy
     · cases hy
   · cases hy
 · exact hs.elim
theorem zp4 {call : zel} {X : Fz → List Loc → Prop} (hX : Stab X) (hcall : zga P X ro hr call) {Y : YC} (hY : YOk P Y X) {vw : Bool} {ops : List Oper} {K : List V → Mem → Prop} {md : List Nat} {Q : Exit → Act → World → Prop} {r : Option Nat} {n : Nat} :
 ∀ (l : List Oper) (a : Act) (w : World) (t : List V) (D : Fz) (ρ : List Loc) (m : Mem) (chs : List zac), ztk P vw (hr ++ ro) call (Y.h ro hr) ops K l t m → X D ρ → SAt D ρ m chs C w.heap → RpL D ρ a.tmps.toList t → (∀ o ∈ l, zcr o = false) → (∀ o ∈ l, ∀ d, o.dst = some d → d ∈ md) →
   (∀ a' w', a'.defers = a.defers → Same w w' → Agr md a.tmps.toList a'.tmps.toList → (∃ D' ρ' m' chs' t', Nx ro hr D ρ m chs D' ρ' m' chs' ∧ SAt D' ρ' m' chs' C w'.heap ∧ RpL D' ρ' a'.tmps.toList t' ∧ K t' m') → Q .normal a' w') → wpListIn (FW r) n P ops.toArray Q l a w
 | [], a, w, t, D, ρ, m, chs, hs, _, M, F, _, _, hQ => hQ a w rfl (.refl w) (.refl _ _) ⟨D, ρ, m, chs, t, .refl, M, F, hs⟩
 | o :: l, a, w, t, D, ρ, m, chs, hs, xx, M, F, hd, hm, hQ => by
   have hput : ∀ v, Agr md a.tmps.toList (a.put o.dst v).tmps.toList := fun v => by rw [zeq]; exact .put v fun i hi => hm o (by simp) i hi
   have step : ∀ v w', zcx ro hr D ρ m chs C (fun v m' => ztk P vw (hr ++ ro) call (Y.h ro hr) ops K l (vput t o.dst v) m') v w'.heap → Same w w' → wpListIn (FW r) n P ops.toArray Q l (a.put o.dst v) w' := fun v w' hP hS => by
    obtain ⟨D', ρ', m', chs', x, nx, M', hv, hK⟩ := hP
    refine zp4 hX hcall hY l (a.put o.dst v) w' _ D' ρ' m' chs' hK (hX.nx nx xx) M' (by rw [zeq]; exact (nx.rpL F).put hv) (fun o' ho' => hd o' (by simp [ho'])) (fun o' ho' => hm o' (by simp [ho'])) fun a' w'' h1 h2 h3 h4 => ?_
    obtain ⟨D2, ρ2, m2, c2, t2, n2, rr⟩ := h4
    exact hQ a' w'' (by rw [h1, zaj]) (hS.trans h2) ((hput v).trans h3) ⟨D2, ρ2, m2, c2, t2, nx.trans n2, rr⟩
   unfold wpListIn
   rcases zqm hs F with ⟨hw, h1⟩ | ⟨hw, h1⟩
   · rw [if_pos hw]
     cases hy : zkx t o with
     | some p => rw [hy] at h1; exact yield_S hY xx hy h1 M F step
     | none =>
       rw [hy] at h1
       exact zrz (hd o (by simp)) (op_S hcall xx h1 M F step)
   · rw [if_neg (by rw [hw]; simp)]
     refine ⟨fun _ _ => trivial, ?_⟩
     refine zp4 hX hcall hY l (a.put o.dst undef) w _ D ρ m chs h1 xx M (by rw [zeq]; exact F.put (.t .nil)) (fun o' ho' => hd o' (by simp [ho'])) (fun o' ho' => hm o' (by simp [ho'])) fun a' w'' h2 h3 h4 h5 => ?_
     exact hQ a' w'' (by rw [h2, zaj]) h3 ((hput undef).trans h4) h5
theorem least {p : Nat → Prop} (h : ∃ n, p n) : ∃ n, p n ∧ ∀ m, p m → n ≤ m := by
 obtain ⟨n, hn⟩ := h
 induction n using Nat.strongRecOn with
 | _ n ih =>
   by_cases hm : ∃ m, m < n ∧ p m
   · obtain ⟨m, hlt, hp⟩ := hm
     exact ih m hlt hp
   · exact ⟨n, hn, fun m hp => Nat.le_of_not_lt fun hlt => hm ⟨m, hlt, hp⟩⟩
open Classical in
noncomputable def zsf (p : Nat → Prop) : Nat := if h : ∃ n, p n then Classical.choose (least h) else 0
theorem zix {p : Nat → Prop} (h : ∃ n, p n) : p (zsf p) ∧ ∀ m, p m → zsf p ≤ m := by
 unfold zsf
 rw [dif_pos h]
 exact Classical.choose_spec (least h)
theorem loopIn_n {Q : Exit → Act → World → Prop} {a : Act} {c : Code} {r : Option Nat} {N : Nat} (I : Nat → Act → World → Prop) (h₀ : ∃ n, I n a w) (round : ∀ n a w, I n a w → c.wpIn (FW r) N P (Exit.then (fun a' w' => ∃ n', n' < n ∧ I n' a' w') Q) a w) : (Code.loop c).wpIn (FW r) N P Q a w := by
 refine wpIn_loop (fun a w => ∃ n, I n a w) (fun a w => zsf (fun n => I n a w)) h₀ fun a w hI => ?_
 refine wpIn_mono (round _ a w (zix hI).1) fun e a' w' hq => ?_
 cases e with
 | normal =>
   obtain ⟨n', hlt, hI'⟩ := hq
   exact ⟨⟨n', hI'⟩, Nat.lt_of_le_of_lt ((zix ⟨n', hI'⟩).2 n' hI') hlt⟩
 | _ => exact hq
theorem zmf {m : Mem} : ∀ (n : Nat) (todo acc : List Nat), ∃ tl, clo m n todo acc = acc ++ tl
 | 0, _, acc => ⟨[], by simp [clo]⟩
 | _ + 1, [], acc => ⟨[], by simp [clo]⟩
 | n + 1, b :: todo, acc => by
   simp only [clo]
   cases inL acc b with
   | true => exact zmf n _ _
   | false =>
     obtain ⟨tl, h⟩ := zmf n (za9 (mg m b) ++ todo) (acc ++ [b])
     exact ⟨b :: tl, by rw [cond_false, h]; simp⟩
mutual
theorem zv4 {f : Nat → Nat} : ∀ {x : V}, (∀ b ∈ zae x, f b = b) → zci f x = x
 | .r b o, h => by simp only [zci]; rw [h b (by simp [zae])]
 | .e b s k o, h => by simp only [zci]; rw [h b (by simp [zae])]
 | .g b o w k, h => by simp only [zci]; rw [h b (by simp [zae])]
 | .w b, h => by simp only [zci]; rw [h b (by simp [zae])]
 | .m b, h => by simp only [zci]; rw [h b (by simp [zae])]
 | .y b, h => by simp only [zci]; rw [h b (by simp [zae])]
 | .v b sz l n c, h => by simp only [zci]; rw [h b (by simp [zae])]
 | .sl b o n, h => by simp only [zci]; rw [h b (by simp [zae])]
 | .f g a c, h => by simp only [zci]; rw [zde fun b hb => h b (by simp [zae, hb]), zde fun b hb => h b (by simp [zae, hb])]
 | .a l, h => by simp only [zci]; rw [zde fun b hb => h b (by simp [zae, hb])]
 | .t l, h => by simp only [zci]; rw [zde fun b hb => h b (by simp [zae, hb])]
 | .u x, _ => rfl
 | .q c o, _ => rfl
 | .c s r, _ => rfl
 | .nm, _ => rfl
 | .nl _, _ => rfl
 | .n k w l, _ => rfl
 | .z, _ => rfl
theorem zde {f : Nat → Nat} : ∀ {x : List V}, (∀ b ∈ zag x, f b = b) → zd0 f x = x
 | [], _ => rfl
 | v :: l, h => by simp only [zd0]; rw [zv4 fun b hb => h b (by simp [zag, hb]), zde fun b hb => h b (by simp [zag, hb])]
end
theorem zv5 {f : Nat → Nat} {a : AB} (h : ∀ b ∈ za9 a, f b = b) : zo2 f a = a := by
 cases a <;> first | rfl | (simp only [zo2]; rw [zde h])
theorem zkb {tl : List Nat} : ∀ {n k b : Nat}, k ≤ b → b < k + n → zjs ((List.range' k n) ++ tl) b k = b
 | 0, k, b, h1, h2 => by omega
 | n + 1, k, b, h1, h2 => by
   simp only [List.range'_succ, zz6, zjs]
   by_cases h : k = b
   · subst h; simp
   · have : zyw k b = false := by
      cases hc : zyw k b with
      | false => rfl
      | true => exact absurd (zy1 hc) h
     rw [this, cond_false]
     exact zkb (by omega) (by omega)
theorem zqu {D0 : Fz} {ρ0 : List Loc} {c0 C0 : List zac} {h0 : zaf} (M0 : SAt D0 ρ0 m0 c0 C0 h0) (hs : zjf m0.length K t m) (n : Nx ro hr D0 ρ0 m0 c0 D ρ m chs) (M : SAt D ρ m chs C h) (F : RpL D ρ T t) :
 ∃ ρ2 m2 c2 t2, Nx ro hr D0 ρ0 m0 c0 D ρ2 m2 c2 ∧ SAt D ρ2 m2 c2 C h ∧ RpL D ρ2 T t2 ∧ K t2 m2 := by
 unfold zjf at hs
 cases hb : zzc m.length (m0.length + 1) with
 | true => rw [hb] at hs; exact ⟨ρ, m, chs, t, n, M, F, hs⟩
 | false =>
   rw [hb] at hs
   simp only [cond_false] at hs
   have hnd : (clo m 1000 (zag t ++ (m.take m0.length).flatMap za9) (zzh m0.length)).Nodup := zcv _ _ _ List.nodup_range
   obtain ⟨tl, htl⟩ := zmf (m := m) 1000 (zag t ++ (m.take m0.length).flatMap za9) (zzh m0.length)
   rw [htl] at hs hnd
   unfold canonK at hs
   obtain ⟨hc, hK⟩ := zaa hs
   simp only [zyy] at hc
   have q1 := za0 hc.1.1
   have q2 := za0 hc.1.2
   have q3 := zbx hc.2
   obtain ⟨c', cs, hcs, Mk, gk, Ms⟩ := M.sub2 hnd q3 fun b hb c hc => q2 c (z1m.2 ⟨b, hb, hc⟩)
   obtain ⟨s, hs⟩ := n.pre
   have hl0 := M0.len
   have hlen := n.len
   have hix : ∀ b, b < m0.length → (zzh m0.length ++ tl)[b]? = some b := fun b hb => by
    rw [zy7 (by simpa using hb), List.getElem?_range hb]
   have hρ : (zzh m0.length ++ tl).map (fun b => (ρ[b]?).getD ⟨0, none, 0, 0, none⟩) = ρ0 ++ tl.map (fun b => (ρ[b]?).getD ⟨0, none, 0, 0, none⟩) := by
    rw [zzr]
    congr 1
    apply z2f (by simp [hl0])
    intro i h1 h2
    simp only [z15, z3f]
    rw [hs, zy7 h2, zy0 h2]; rfl
   rw [hρ] at Ms
   have F2 := (ren_all (D := D) (ρ := ρ) (f := fun b => zjs (zzh m0.length ++ tl) b 0) (ρ' := (zzh m0.length ++ tl).map (fun b => (ρ[b]?).getD ⟨0, none, 0, 0, none⟩))).2.1 F fun b hb L hL => by
    obtain ⟨k, h4, h5⟩ := zer (k := 0) (q1 b hb)
    rw [h4, zze, zy5, h5, z0g, hL]; rfl
   rw [hρ] at F2
   refine ⟨_, _, cs, _, ⟨n.le, ⟨_, rfl⟩, fun b h1 h2 => ?_, fun b h1 h2 => ?_, ?_⟩, Ms.mono (.refl _) (C' := C) ?_, F2, hK⟩
   · rw [hcs, zy5, hix b h2, z0g, ← n.keep b h1 h2]
     have : b < chs.length := by rw [M.lch]; omega
     rw [zy0 this]; rfl
   · have e1 : mg (zk6 m (zzh m0.length ++ tl)) b = zo2 (fun b => zjs (zzh m0.length ++ tl) b 0) (mg m b) := by
      rw [ziu, zk6, zy5, hix b h2]; rfl
     rw [e1, n.same b h1 h2]
     refine zv5 fun c hcr => ?_
     have hbρ : b < ρ0.length := by omega
     have hbc : b < c0.length := by rw [M0.lch]; exact h2
     have he := M0.ent b _ _ _ (zy0 hbρ) (znz h2) (zy0 hbc)
     have key : ∀ {L : Loc} {ab : AB} {ch : zac}, Ent D0 ρ0 L ab ch → ∀ c ∈ za9 ab, c < ρ0.length := fun he => by
      cases he with
      | c hc => exact refs_lt.2.2 hc
      | cw _ _ hc => exact refs_lt.2.2 hc
      | _ => simp [za9]
     have hcl : c < ρ0.length := key he c hcr
     have := zkb (tl := tl) (n := m0.length) (k := 0) (b := c) (zzv _) (by omega)
     rwa [← List.range_eq_range'] at this
   · simp [zk6]
   · have S := Ms.st
     exact (S.perm (C' := c' ++ (cs ++ C)) (by simp only [zzs]; exact zz2 _ _ _)).drops
theorem wkV_S (hv : Rp D ρ v x) : Rp D ρ v (wkV x) := by
 unfold wkV
 split
 · cases hv; exact .c (.nil _ _ _)
 · exact hv
theorem zs0 {H : SH P} (hself : zo1 P self) (hX : Stab X) (hY : YOk P Y X) (hYr : Y.isRd = false) : zga P X ro hr (zs1 P H (self Y) ro hr) := by
 intro g args m KS D ρ chs C h vs xx hs M ha
 unfold zs1 at hs
 cases hf : P.funcs[g]? with
 | none => rw [hf] at hs; exact hs.elim
 | some fn =>
   rw [hf] at hs
   simp only at hs
   cases hi : inL H.inl g with
   | true =>
     rw [hi] at hs
     simp only [cond_true] at hs
     split at hs
     · exact hs.elim
     · rename_i c hc
       cases hn : (fn.name == "runtime.NumGoroutine") with
       | true => rw [hn] at hs; exact hs.elim
       | false =>
         rw [hn] at hs
         refine (zyf (fi := g) hself hX hY hYr xx hf hc hn hs M ha).mono fun v h' hp => ?_
         obtain ⟨D', ρ', m', c', x, n', M', hv, hk⟩ := hp
         cases hg : H.gc with
         | false => rw [hg] at hk; exact ⟨D', ρ', m', c', x, n', M', hv, hk⟩
         | true =>
           rw [hg] at hk
           have hk : zjf m.length (fun t m2 => KS (zhv t 0) m2 ∨ KS (wkV (zhv t 0)) m2) [x] m' := hk
           obtain ⟨ρ2, m2, c2, t2, n2, M2, F2, k2⟩ := zqu (T := [v]) M hk n' M' (.cons hv .nil)
           cases F2 with
           | cons hv2 hn2 =>
             cases hn2
             rcases k2 with k2 | k2
             · exact ⟨D', ρ2, m2, c2, _, n2, M2, hv2, k2⟩
             · exact ⟨D', ρ2, m2, c2, _, n2, M2, wkV_S hv2, k2⟩
   | false =>
     rw [hi] at hs
     exact callS_S hs M ha
theorem zyc {H : SH P} (hself : zo1 P self) (hX : Stab X) (hY : YOk P Y X) (hYr : Y.isRd = false) : zga P X ro hr (zyd P H (self Y) ro hr) := by
 intro g args m KS D ρ chs C h vs xx hs M ha
 unfold zyd at hs
 split at hs
 · rename_i p hp
   exact H.sp.ok hX (zs0 hself hX hY hYr) hp hs xx M ha
 · exact zs0 hself hX hY hYr xx hs M ha
theorem setA_S : ∀ {ps : List Tmp} {T vs : List Value} {t xs : List V}, RpL D ρ T t → RpL D ρ vs xs → RpL D ρ (zj9 T ps vs) (setA t ps xs)
 | [], T, vs, t, xs, F, hx => by cases vs <;> cases xs <;> exact F
 | p :: ps, T, [], t, xs, F, hx => by cases hx; exact F
 | p :: ps, T, v :: vs, t, xs, F, hx => by
   cases hx with
   | cons a b =>
     have := setA_S (ps := ps) (F.set p a) b
     exact this
theorem SAt.recd (M : SAt D ρ m chs C h) {b l : Nat} {o : Obj} (hL : ρ[b]? = some L) (hl : L.b = l) (ho : L.o = some o) (hb : mg m b = .tk) : ∃ L, ρ[b]? = some L ∧ L.b = l ∧ chs[b]? = some [(l, o)] ∧ SAt D ρ (ms m b .x) (chs.set b []) ([(l, o)] :: C) h ∧ b < m.length := by
 obtain ⟨L', ch, h1, h2, h3⟩ := M.get (b := b) (by rw [hb]; simp)
 rw [hb] at h3
 rw [hL] at h1
 cases h1
 subst hl
 cases h3 with
 | tk h4 =>
   rw [ho] at h4
   cases h4
   exact ⟨L, hL, rfl, h2, M.take hL h2, by rw [← M.len]; exact (zyz.1 hL).1⟩
theorem SAt.back {l : Nat} {o : Obj} (M : SAt D ρ m chs ([(l, o)] :: C) h) {b : Nat} (hb : b < m.length) (hL : ρ[b]? = some L) (hl : L.b = l) (ho : L.o = some o) : SAt D ρ (ms m b .tk) (chs.set b [(l, o)]) C h := by
 subst hl
 exact M.over hb hL (.tk ho)
theorem vcC_S (hmix : P.follows .mixedOrders = true) {H : SH P} (hself : zo1 P self) {fi : Nat} : ∀ (c : Code) (r : Option Nat) (Y : YC) (X : Fz → List Loc → Prop) (hr ro : List Nat) (Q : zgx) (t : List V) (m : Mem) (D : Fz) (ρ : List Loc) (chs C : List zac) (a : Act) (w : World) (ds : List Nat),
 Stab X → YOk P Y X → (Y.isRd = false → r = none) → X D ρ → vcC P H self fi c Y hr ro Q t m → SAt D ρ m chs (dch ds ++ C) w.heap → RpL D ρ a.tmps.toList t → a.defers = ds.map mark →
 c.wpIn (FW r) 0 P (zuf Q (zcc c) a.tmps.toList w ro hr D ρ m chs C) a w := by
 intro c
 induction c with
 | skip => intro r Y X hr ro Q t m D ρ chs C a w ds hX hY hrd xx hh M F hd; exact wpIn_skip ⟨.refl w, .refl _ _, ds, D, ρ, m, chs, t, hd, .refl, M, F, hh⟩
 | region id ops d =>
   intro r Y X hr ro Q t m D ρ chs C a w ds hX hY hrd xx hh M F hd
   simp only [vcC] at hh
   obtain ⟨hnd, hh⟩ := zaa hh
   have hnd' : ∀ o ∈ ops.toList, zcr o = false := fun o ho => by simpa using z0d.1 hnd o ho
   have hm : ∀ o ∈ ops.toList, ∀ d', o.dst = some d' → d' ∈ zcc (.region id ops d) := fun o ho d' hd' => by
    simp only [zcc, zy6]
    exact .inl (List.mem_filterMap.2 ⟨o, ho, hd'⟩)
   cases d with
   | false =>
     have := zp4 (P := P) (vw := H.gc) (r := r) (n := 0) hX (zyc (H := H) (self := self) (ro := ro) (hr := hr) hself hX hY.sub Y.sub_rd) hY (Q := zuf Q (zcc (.region id ops false)) a.tmps.toList w ro hr D ρ m chs C) ops.toList a w t D ρ m chs hh xx M F hnd' hm fun a' w' h1 h2 h3 h4 => by
      obtain ⟨D', ρ', m', c', t', n', M', F', k⟩ := h4
      exact ⟨h2, h3, ds, D', ρ', m', c', t', by rw [h1, hd], n', M', F', k⟩
     refine wpIn_region_list ?_
     simpa using this
   | true =>
     obtain ⟨hB, hh⟩ := zaa hh
     refine wpIn_region_any hmix ?_
     rw [zyy] at hB
     obtain ⟨hB, hsel⟩ := hB
     let QQ : Exit → Act → World → Prop := fun e a' w' => e = .normal ∧ UpS (zcc (.region id ops true)) a.tmps.toList w ro hr D ρ m chs (dch ds ++ C) (zjf m.length (Q .nrm)) a' w'
     have key := draw_S (P := P) (X := X) (fun s => hX s) (md := zcc (.region id ops true)) (Q := QQ) (call := zyd P H (self Y.sub) ro) (fun hx => zyc (H := H) (self := self) (Y := Y.sub) hself hX hY.sub Y.sub_rd) hsel (fun _ _ _ h => by cases h.1) (fun _ _ h => by cases h.1) hm ops.toList.length [] [] [] (Array.replicate ops.toList.length false) { a with defers := [] }
      { w with drawn := w.drawn + 1 } t D ρ m chs hh hB ⟨by simp, fun k hk => by rw [zv3 true hk]; simp, fun k hk => by simp at hk⟩ (fun j oj hj hl => by rw [zrl] at hl; cases hl)
      rfl xx M F (by intro c hc; simp at hc) (fun a' w' hU => ⟨rfl, hU.df, ⟨hU.sm.tape, hU.sm.os, hU.sm.output, Nat.le_trans (z0i _) hU.sm.drawn⟩, hU.ag, hU.ex⟩)
     have h1 := zo4 _ _ _ _ _ key
     have h2 := zoz (r := r) (n := 0) (ds := a.defers) (by simpa using hnd') (fun ⟨_, _, h⟩ => by cases h.1) _ _ _ _ h1
     have h3 := zoy (Qb := zuf Q (zcc (.region id ops true)) a.tmps.toList w ro hr D ρ m chs C) (fun e a1 w1 hq => by
      obtain ⟨a0, ⟨rfl, hU⟩, rfl⟩ := hq
      obtain ⟨D', ρ', m', c', t', n', M', F', k⟩ := hU.ex
      obtain ⟨ρ2, m2, c2, t2, n2, M2, F2, k2⟩ := zqu M k n' M' F'
      exact ⟨hU.sm, hU.ag, ds, D', ρ2, m2, c2, t2, by rw [hU.df, zz7, hd], n2, M2, F2, k2⟩) _ _ _ _ h2
     have e : ({ a with defers := [] ++ a.defers } : Act) = a := by cases a; rfl
     rw [zz7] at h3
     simpa using h3
 | seq x y ihx ihy =>
   intro r Y X hr ro Q t m D ρ chs C a w ds hX hY hrd xx hh M F hd
   simp only [vcC] at hh
   have hmx : ∀ i ∈ zcc x, i ∈ zcc (.seq x y) := fun i hi => by simp only [zcc, zy6]; exact .inl hi
   have hmy : ∀ i ∈ zcc y, i ∈ zcc (.seq x y) := fun i hi => by simp only [zcc, zy6]; exact .inr hi
   have go : ∀ (rx : List Nat) (K : List V → Mem → Prop), vcC P H self fi x Y hr (rx ++ ro) (zpn K Q) t m →
    (∀ a1 w1, UpY (zcc x) a.tmps.toList w (rx ++ ro) hr D ρ m chs C K a1 w1 → ∃ ds1 D1 ρ1 m1 c1 t1, a1.defers = ds1.map mark ∧ Nx ro hr D ρ m chs D1 ρ1 m1 c1 ∧ SAt D1 ρ1 m1 c1 (dch ds1 ++ C) w1.heap ∧ RpL D1 ρ1 a1.tmps.toList t1 ∧ vcC P H self fi y Y hr ro Q t1 m1) →
    (Code.seq x y).wpIn (FW r) 0 P (zuf Q (zcc (.seq x y)) a.tmps.toList w ro hr D ρ m chs C) a w := by
    intro rx K hx hK
    refine wpIn_seq (wpIn_mono (ihx r Y X hr _ _ t m D ρ chs C a w ds hX hY hrd xx hx M F hd) fun e a1 w1 hq => ?_)
    cases e with
    | normal =>
      obtain ⟨ds1, D1, ρ1, m1, c1, t1, e1, n1, M1, F1, hy⟩ := hK a1 w1 hq
      refine wpIn_mono (ihy r Y X hr ro Q t1 m1 D1 ρ1 c1 C a1 w1 ds1 hX hY hrd (hX.nx n1 xx) hy M1 F1 e1) fun e a2 w2 hq2 => ?_
      cases e with
      | normal => exact UpY.after hq.sm hq.ag n1 hq2 hmx hmy
      | exit id => exact UpY.after hq.sm hq.ag n1 hq2 hmx hmy
      | ret => exact UpY.after hq.sm hq.ag n1 hq2 hmx hmy
      | _ => exact hq2.elim
    | exit id => exact (UpY.mono hq hmx fun _ _ h => h).weakR
    | ret => exact (UpY.mono hq hmx fun _ _ h => h).weakR
    | _ => exact hq.elim
   split at hh
   · exact go [] _ hh fun a1 w1 hU => hU.ex
   · rename_i hint hf
     obtain ⟨hc, hh⟩ := zaa hh
     simp only [zyy] at hc
     refine go _ _ (hh (mkP hint.ps fun is => vcC P H self fi y Y hr ro Q (hint.st (zcc x) t m is).1 (hint.st (zcc x) t m is).2) (zyp _ _)) fun a1 w1 hU => ?_
     obtain ⟨ds1, D1, ρ1, m1, c1, t1, e1, n1, M1, F1, hk⟩ := hU.ex
     have hk : hint.el (hint.base t m) (mkP hint.ps fun is => vcC P H self fi y Y hr ro Q (hint.st (zcc x) t m is).1 (hint.st (zcc x) t m is).2) t1 m1 := hk
     unfold Hint.el at hk
     split at hk
     · rename_i os mR hpk
       obtain ⟨hal, hk⟩ := zaa hk
       obtain ⟨ρ2, c2, n2, M2, F2, ok⟩ := zvz hc.1 hc.2 M F n1 M1 F1 hU.ag hpk hal
       rw [zyn ok] at hk
       exact ⟨ds1, D1, ρ2, _, c2, _, e1, n2.weakR, M2, F2, hk⟩
     · exact hk.elim
 | cond c x y ihx ihy =>
   intro r Y X hr ro Q t m D ρ chs C a w ds hX hY hrd xx hh M F hd
   simp only [vcC] at hh
   have hmx : ∀ i ∈ zcc x, i ∈ zcc (.cond c x y) := fun i hi => by simp only [zcc, zy6]; exact .inl hi
   have hmy : ∀ i ∈ zcc y, i ∈ zcc (.cond c x y) := fun i hi => by simp only [zcc, zy6]; exact .inr hi
   split at hh
   · rename_i b he
     have hv := zcf F c
     rw [he] at hv
     refine wpIn_cond (t := b) (by rw [zbb]; exact zne hv) ?_
     cases b
     · exact wpIn_mono (ihy r Y X hr ro Q t m D ρ chs C a w ds hX hY hrd xx hh M F hd) fun e a' w' hq => by
        cases e <;> first | exact UpY.mono hq hmy fun _ _ h => h | exact hq.elim
     · exact wpIn_mono (ihx r Y X hr ro Q t m D ρ chs C a w ds hX hY hrd xx hh M F hd) fun e a' w' hq => by
        cases e <;> first | exact UpY.mono hq hmx fun _ _ h => h | exact hq.elim
   · exact hh.elim
 | block id c ih =>
   intro r Y X hr ro Q t m D ρ chs C a w ds hX hY hrd xx hh M F hd
   simp only [vcC] at hh
   refine wpIn_block (wpIn_mono (ih r Y X hr ro _ t m D ρ chs C a w ds hX hY hrd xx hh M F hd) fun e a' w' hq => ?_)
   cases e with
   | normal => exact hq
   | exit j =>
     simp only [Exit.inBlock]
     by_cases hj : j = id
     · rw [if_pos hj]
       exact UpY.mono hq (fun _ h => h) fun t h hk => by simpa [zyh, hj] using hk
     · rw [if_neg hj]
       have hb : zyw j id = false := by
        cases h : zyw j id with
        | false => rfl
        | true => exact absurd (zy1 h) hj
       exact UpY.mono hq (fun _ h => h) fun t h hk => by simpa [zyh, hb] using hk
   | ret => exact hq
   | _ => exact hq.elim
 | loop c ih =>
   intro r Y X hr ro Q t m D ρ chs C a w ds hX hY hrd xx hh M F hd
   simp only [vcC] at hh
   split at hh
   · -- round by round
     refine wpIn_loop_rounds H.n ?_
     have key : ∀ (n : Nat) (t : List V) (m1 : Mem) (D1 : Fz) (ρ1 : List Loc) (c1 : List zac) (a1 : Act) (w1 : World) (ds1 : List Nat), rnds (cond H.gc (some m.length) none) (fun Q => vcC P H self fi c Y hr ro Q) Q n t m1 → X D1 ρ1 → SAt D1 ρ1 m1 c1 (dch ds1 ++ C) w1.heap → RpL D1 ρ1 a1.tmps.toList t → a1.defers = ds1.map mark →
      Same w w1 → Agr (zcc c) a.tmps.toList a1.tmps.toList → Nx ro hr D ρ m chs D1 ρ1 m1 c1 → Code.roundsIn (FW r) 0 P c (zuf Q (zcc c) a.tmps.toList w ro hr D ρ m chs C) n a1 w1 := by
      intro n
      induction n with
      | zero => intro t m1 D1 ρ1 c1 a1 w1 ds1 hh; exact hh.elim
      | succ n ihn =>
        intro t m1 D1 ρ1 c1 a1 w1 ds1 hh x1 M1 F1 hd1 s1 g1 n1
        refine wpIn_mono (ih r Y X hr ro _ t m1 D1 ρ1 c1 C a1 w1 ds1 hX hY hrd x1 hh M1 F1 hd1) fun e a2 w2 hq => ?_
        cases e with
        | normal =>
          obtain ⟨ds2, D2, ρ2, m2, c2, t2, e2, n2, M2, F2, hk⟩ := hq.ex
          have g : ∃ ρ3 m3 c3 t3, Nx ro hr D ρ m chs D2 ρ3 m3 c3 ∧ SAt D2 ρ3 m3 c3 (dch ds2 ++ C) w2.heap ∧ RpL D2 ρ3 a2.tmps.toList t3 ∧ rnds (cond H.gc (some m.length) none) (fun Q => vcC P H self fi c Y hr ro Q) Q n t3 m3 := by
           generalize hG : cond H.gc (some m.length) none = G at hk
           cases hg : H.gc with
           | false => rw [hg] at hG; cases hG; exact ⟨ρ2, m2, c2, t2, n1.trans n2, M2, F2, hk⟩
           | true => rw [hg] at hG; cases hG; exact zqu M hk (n1.trans n2) M2 F2
          obtain ⟨ρ3, m3, c3, t3, n3, M3, F3, k3⟩ := g
          exact ihn t3 m3 D2 ρ3 c3 a2 w2 ds2 k3 (hX.nx n3 xx) M3 F3 e2 (s1.trans hq.sm) (g1.trans hq.ag) n3
        | exit id => exact UpY.after s1 g1 n1 hq (fun _ h => h) fun _ h => h
        | ret => exact UpY.after s1 g1 n1 hq (fun _ h => h) fun _ h => h
        | _ => exact hq.elim
     exact key H.n t m D ρ chs a w ds hh xx M F hd (.refl w) (.refl _ _) .refl
   · rename_i hint hf
     obtain ⟨hc, I, f, h0, hr'⟩ := zaa hh
     simp only [zyy] at hc
     -- a state at the head
     have head : ∀ {D1 : Fz} {ρ1 : List Loc} {m1 : Mem} {c1 C1 : List zac} {t1 : List V} {a1 : Act} {w1 : World} {n : Nat} {J : PtT Prop hint.ps}, Nx (zuh (hint.base t m) 0 ++ ro) hr D ρ m chs D1 ρ1 m1 c1 → SAt D1 ρ1 m1 c1 C1 w1.heap → RpL D1 ρ1 a1.tmps.toList t1 → Agr (zcc c) a.tmps.toList a1.tmps.toList →
      hint.el (hint.base t m) J t1 m1 → ∃ os ρ2 c2, OkL hint.ps os ∧ apP False hint.ps J os ∧ Nx (zuh (hint.base t m) 0 ++ ro) hr D ρ m chs D1 ρ2 (hint.st (zcc c) t m os).2 c2 ∧ SAt D1 ρ2 (hint.st (zcc c) t m os).2 c2 C1 w1.heap ∧ RpL D1 ρ2 a1.tmps.toList (hint.st (zcc c) t m os).1 := by
      intro D1 ρ1 m1 c1 C1 t1 a1 w1 n J n1 M1 F1 ag hk
      unfold Hint.el at hk
      split at hk
      · rename_i os mR hpk
        obtain ⟨hal, hk⟩ := zaa hk
        obtain ⟨ρ2, c2, n2, M2, F2, ok⟩ := zvz hc.1 hc.2 M F n1 M1 F1 ag hpk hal
        exact ⟨os, ρ2, c2, ok, hk, n2, M2, F2⟩
      · exact hk.elim
     refine loopIn_n (fun k a1 w1 => Same w w1 ∧ Agr (zcc c) a.tmps.toList a1.tmps.toList ∧ ∃ ds1 D1 os ρ2 c2, a1.defers = ds1.map mark ∧ OkL hint.ps os ∧ apP False hint.ps I os ∧ apP 0 hint.ps f os = k ∧ Nx (zuh (hint.base t m) 0 ++ ro) hr D ρ m chs D1 ρ2 (hint.st (zcc c) t m os).2 c2 ∧
      SAt D1 ρ2 (hint.st (zcc c) t m os).2 c2 (dch ds1 ++ C) w1.heap ∧ RpL D1 ρ2 a1.tmps.toList (hint.st (zcc c) t m os).1) ?_ fun k a1 w1 hI => ?_
     · obtain ⟨os, ρ2, c2, ok, hi, n2, M2, F2⟩ := head (n := 0) .refl M F (.refl _ _) h0
       exact ⟨_, .refl w, .refl _ _, ds, D, os, ρ2, c2, hd, ok, hi, rfl, n2, M2, F2⟩
     · obtain ⟨s1, g1, ds1, D1, os, ρ2, c2, hd1, ok, hi, hk, n2, M2, F2⟩ := hI
       have hb := allP_ap ok hr'
       rw [zqz (d1 := False) (d2 := False) ok, zqz (d1 := 0) (d2 := fun _ => False) ok, zyn ok] at hb
       have hb := hb hi
       refine wpIn_mono (ih r Y X hr _ _ _ _ D1 ρ2 c2 C a1 w1 ds1 hX hY hrd (hX.nx n2 xx) hb M2 F2 hd1) fun e a2 w2 hq => ?_
       cases e with
       | normal =>
         obtain ⟨ds3, D3, ρ3, m3, c3, t3, e3, n3, M3, F3, hk3⟩ := hq.ex
         have ag3 := g1.trans hq.ag
         obtain ⟨os4, ρ4, c4, ok4, hi4, n4, M4, F4⟩ := head (n := 0) (n2.trans n3) M3 F3 ag3 hk3
         rw [zqz (d1 := False) (d2 := 0) ok4] at hi4
         exact ⟨_, by rw [← hk]; exact hi4.2, s1.trans hq.sm, ag3, ds3, D3, os4, ρ4, c4, e3, ok4, hi4.1, rfl, n4, M4, F4⟩
       | exit id => exact (UpY.after s1 g1 n2 hq (fun _ h => h) fun _ h => h).weakR
       | ret => exact (UpY.after s1 g1 n2 hq (fun _ h => h) fun _ h => h).weakR
       | _ => exact hq.elim
 | exit id => intro r Y X hr ro Q t m D ρ chs C a w ds hX hY hrd xx hh M F hd; exact wpIn_exit ⟨.refl w, .refl _ _, ds, D, ρ, m, chs, t, hd, .refl, M, F, hh⟩
 | ret => intro r Y X hr ro Q t m D ρ chs C a w ds hX hY hrd xx hh M F hd; exact wpIn_ret ⟨.refl w, .refl _ _, ds, D, ρ, m, chs, t, hd, .refl, M, F, hh⟩
 | scope c ih =>
   intro r Y X hr ro Q t m D ρ chs C a w ds hX hY hrd xx hh M F hd
   refine zs9 (wpIn_mono (ih r Y X hr ro Q t m D ρ chs C a w ds hX hY hrd xx hh M F hd) fun e a' w' hq => ?_)
   cases e <;> first | exact hq | exact hq.elim
 | label l => intro r Y X hr ro Q t m D ρ chs C a w ds hX hY hrd xx hh M F hd; exact wpIn_label ⟨.refl w, .refl _ _, ds, D, ρ, m, chs, t, hd, .refl, M, F, hh⟩
 | rangeFunc g ps assign body iha ihb =>
   intro r Y X hr ro Q t m D ρ chs C a w ds hX hY hrd xx hh M F hd
   cases Y with
   | rd => simp [vcC] at hh
   | it b f => simp [vcC] at hh
   | out =>
     have hr0 := hrd rfl
     subst hr0
     simp only [vcC] at hh
     split at hh
     · rename_i gi as' cs hg
       split at hh
       · exact hh.elim
       · rename_i gfn hgf
         split at hh
         · exact hh.elim
         · rename_i gc hgc
           cases hng : (gfn.name == "runtime.NumGoroutine" || !noEx body) with
           | true => rw [hng] at hh; exact hh.elim
           | false =>
             rw [hng] at hh
             simp only [cond_false, z2e] at hh hng
             refine wpIn_rangeFunc ?_
             intro fn _
             obtain ⟨rc, hrc⟩ : ∃ rc : LoopState → Loop, rc = fun st => { state := st, pending := none, fn, tmps := a.tmps, params := ps, assign, body, defers := w.heap.size } := ⟨_, rfl⟩
             let l := w.heap.size + 1
             let h2 : zaf := (w.heap.push (.deferred (some []))).push (.loop (rc .ready))
             have hl : (w.heap.push (Obj.deferred (some []))).size = l := by simp [l]
             let L : Loc := ⟨l, none, 0, 0, some (.loop (rc .ready))⟩
             have M0 : SAt D ρ m chs ([(l, .loop (rc .ready))] :: (dch (w.heap.size :: ds) ++ C)) h2 := by
              have := (M.cpush (.deferred (some []))).cpush (.loop (rc .ready))
              rw [hl] at this
              exact this
             have M1 : SAt D (ρ ++ [L]) (m ++ [.tk]) (chs ++ [[(l, .loop (rc .ready))]]) (dch (w.heap.size :: ds) ++ C) h2 := M0.push (.tk rfl)
             have hbL : ∀ s : List Loc, (ρ ++ [L] ++ s)[m.length]? = some L := fun s => by rw [← M.len]; simp
             have hYf := hh
             let X' : Fz → List Loc → Prop := fun D' ρ' => Le D D' ∧ ∃ s, ρ' = ρ ++ [L] ++ s
             have hX' : Stab X' := fun {D1 D2 ρ1} s ⟨h1, s1, e1⟩ h3 => ⟨h1.trans h3, s1 ++ s, by rw [e1]; simp⟩
             -- the rounds
             have hY' : YOk P (.it m.length fun ro' hr' args m1 K => isY (mg m1 m.length) (cond (zyw args.length ps.size) (vcC P H self fi assign .rd hr' ro'
              (zpn (fun t2 m2 => vcC P H self fi body .rd hr' ro' (fun e _ m3 => match e, mg m3 m.length with
               | .nrm, .x => K (.u (.b true)) (ms m3 m.length .tk)
               | _, _ => False) t2 m2) fun _ _ _ => False) (setA t ps.toList args) (ms m1 m.length .x)) False)) X' := by
              intro ro' hr' args m1 KS D1 ρ1 c1 C1 vs L1 w1 x1 hf M1 hvs hL1
              obtain ⟨hle, s1, rfl⟩ := x1
              rw [hbL] at hL1
              cases hL1
              obtain ⟨hm1, hf⟩ := zxj hf
              obtain ⟨hlen, hf⟩ := zaa hf
              have hlen := zy1 hlen
              obtain ⟨L2, q1, q2, q3, M2, hb1⟩ := M1.recd (hbL s1) rfl rfl hm1
              have hat : w1.heap[l]? = some (.loop (rc .ready)) := M1.own q3 (zzx _)
              have has' : vs.toArray.size = ps.size := by rw [z00, hvs.len', hlen]
              refine ⟨fn, _, assign, body, by rw [hrc] at hat; exact run_yield hat has', ?_⟩
              refine roundIn_of_wpIn (F := FW none) trivial ?_
              show assign.wpIn (FW (some l)) 0 P _ _ _
              generalize htm : ((ps.zip vs.toArray).foldl (fun tmps (x : Tmp × Value) => tmps.setIfInBounds x.1 x.2) a.tmps) = tm
              have htl : tm.toList = zj9 a.tmps.toList ps.toList vs := by
               rw [← htm, ← zh8, ← Array.foldl_toList, Array.toList_zip]
              have F2 : RpL D1 (ρ ++ [L] ++ s1) tm.toList (setA t ps.toList args) := by
               rw [htl, zy8]
               rw [zy8] at hvs
               exact setA_S (F.mono hle _) hvs
              refine wpIn_mono (iha (some l) .rd (fun _ _ => True) hr' ro' _ _ _ D1 _ _ ([(l, .loop (rc .ready))] :: C1) { tmps := tm, defers := [] } w1 [] (fun _ _ _ => trivial) trivial (by intro h; cases h) trivial hf M2 F2 rfl) fun e a3 w3 hq => ?_
              cases e with
              | normal =>
                obtain ⟨ds3, D3, ρ3, m3, c3, t3, e3, n3, M3, F3, hk⟩ := hq.ex
                have M3' : SAt D3 ρ3 m3 c3 ([(l, .loop (rc .ready))] :: (dch ds3 ++ C1)) w3.heap := M3.perm (by simp [zzs] <;> exact z1l)
                have hat3 : w3.heap[l]? = some (.loop (rc .ready)) := M3'.st.unmid.get (zzx _)
                refine ⟨w3.putObj l (.loop (rc .busy)), by rw [hrc] at hat3 ⊢; exact run_beginRound hat3 rfl, ?_⟩
                show body.wpIn (FW (some l)) 0 P _ _ _
                have M4 : SAt D3 ρ3 m3 c3 (dch ds3 ++ ([(l, .loop (rc .busy))] :: C1)) (w3.putObj l (.loop (rc .busy))).heap := (M3'.cput (.loop (rc .busy))).perm (by simp [zzs] <;> exact z1l.symm)
                refine wpIn_mono (ihb (some l) .rd (fun _ _ => True) hr' ro' _ _ _ D3 _ _ ([(l, .loop (rc .busy))] :: C1) a3 (w3.putObj l (.loop (rc .busy))) ds3 (fun _ _ _ => trivial) trivial (by intro h; cases h) trivial hk M4 F3 e3) fun e a5 w5 hq5 => ?_
                have fin : ∀ {md T}, UpY md T (w3.putObj l (.loop (rc .busy))) ro' hr' D3 ρ3 m3 c3 ([(l, .loop (rc .busy))] :: C1) (fun _ m3 => match Ex.nrm, mg m3 m.length with
                 | .nrm, .x => KS (.u (.b true)) (ms m3 m.length .tk)
                 | _, _ => False) a5 w5 → ∃ v w', (Instr.endRound l none).run P w5 = .ok v w' ∧ ∃ v', Ending.returned v = Ending.returned v' ∧ zcx ro' hr' D1 (ρ ++ [L] ++ s1) m1 c1 C1 KS v' w'.heap ∧ Same w1 w' := by
                 intro md T hu
                 obtain ⟨ds5, D5, ρ5, m5, c5, t5, e5, n5, M5, F5, hk5⟩ := hu.ex
                 have M5' : SAt D5 ρ5 m5 c5 ([(l, .loop (rc .busy))] :: (dch ds5 ++ C1)) w5.heap := M5.perm (by simp [zzs] <;> exact z1l)
                 have hat5 : w5.heap[l]? = some (.loop (rc .busy)) := M5'.st.unmid.get (zzx _)
                 have nn := n3.trans n5
                 obtain ⟨s5, hs5⟩ := nn.pre
                 have hb5 : m.length < m5.length := by have := nn.len; rw [zbz] at this; omega
                 have hL5 : ρ5[m.length]? = some L := by rw [hs5, zy8]; exact hbL _
                 split at hk5
                 rotate_left
                 · exact hk5.elim
                 rename_i hx5
                 have M6 : SAt D5 ρ5 (ms m5 m.length .tk) (c5.set m.length [(l, .loop (rc .ready))]) C1 (w5.putObj l (.loop (rc .ready))).heap := by
                  have := (M5'.cput (.loop (rc .ready))).back hb5 hL5 rfl rfl
                  exact this.mono (.refl _) (this.st.sublist (by
                   simp only [zzs]
                   exact (List.Sublist.refl _).append (List.sublist_append_right _ _)))
                 refine ⟨.bool true, w5.putObj l (.loop (rc .ready)), by rw [hrc] at hat5 ⊢; exact run_endRound none hat5, .bool true, rfl, ⟨D5, ρ5, _, _, .u (.b true), ⟨nn.le, nn.pre, fun b h1 h2 => ?_, fun b h1 h2 => ?_, ?_⟩, M6, .u (.bool true), hk5⟩, ?_⟩
                 · by_cases hb : m.length = b
                   · subst hb
                     rw [zz3 (by rw [M5.lch]; exact hb5), q3]
                   · rw [zzp hb]
                     have := nn.keep b h1 (by rw [zbz]; exact h2)
                     rw [this, zzp hb]
                 · by_cases hb : m.length = b
                   · subst hb
                     rw [zw2 hb5, hm1]
                   · rw [zbe hb]
                     have := nn.same b h1 (by rw [zbz]; exact h2)
                     rw [this, zbe hb]
                 · have := nn.len
                   rw [zbz] at this ⊢
                   exact this
                 · exact ((hq.sm.trans (Same.put _ _ _)).trans hu.sm).trans (Same.put _ _ _)
                cases e with
                | normal => exact fin hq5
                | exit i => obtain ⟨_, _, _, _, _, _, _, _, _, _, h⟩ := hq5.ex; exact h.elim
                | ret => obtain ⟨_, _, _, _, _, _, _, _, _, _, h⟩ := hq5.ex; exact h.elim
                | _ => exact hq5.elim
              | exit i => obtain ⟨_, _, _, _, _, _, _, _, _, _, h⟩ := hq.ex; exact h.elim
              | ret => obtain ⟨_, _, _, _, _, _, _, _, _, _, h⟩ := hq.ex; exact h.elim
              | _ => exact hq.elim
             have hvg := zcf F g
             rw [hg] at hvg
             generalize hevg : ev a.tmps.toList g = vg at hvg
             obtain ⟨xs, ys, rfl, ha1, ha2⟩ := hvg.f_inv
             have hyv : Rp D (ρ ++ [L]) (.func (.yield l) #[] #[]) (.y m.length) := .y (L := L) (by have := hbL []; rwa [zzw] at this)
             have hargs : RpL D (ρ ++ [L]) (xs ++ [Value.func (.yield l) #[] #[]] ++ ys) (as' ++ [.y m.length] ++ cs) := ((ha1.mono (.refl D) [L]).app (.cons hyv .nil)).app (ha2.mono (.refl D) [L])
             have hrun := zyf (fi := gi) (X := X') hself hX' (Y := .it m.length _) @hY' rfl ⟨.refl D, [], by simp⟩ hgf hgc hng.1 hYf M1 hargs
             let W1 : World := (w.alloc (.deferred (some []))).alloc (.loop (rc .ready))
             have hW1 : W1.heap = h2 := rfl
             have hevg' : a.eval g = .func (.func gi) xs.toArray ys.toArray := by rw [zbb]; exact hevg
             refine ⟨l, [{ target := .collected w.heap.size, args := #[] }], W1, { target := .fn (.func gi) ys.toArray, args := xs.toArray ++ #[.func (.yield l) #[] #[]] }, W1, gi,
              (xs.toArray ++ #[.func (.yield l) #[] #[]]) ++ ys.toArray, W1, ?_, ?_, fun _ _ => trivial, ?_, fun hx => (by cases hx), ?_⟩
             · show (Instr.enterLoop fn a.tmps ps assign body none).run P w = _
               rw [run_enterLoop_outer]; subst hrc; rfl
             · simp only [resolve, hevg', Deferred.ofValue]
               simp [Act.eval]
             · show (callFunc gi _).run P W1 = _
               exact zd7 hrun.1 _ _
             · have hc := hrun.2 W1 hW1
               have ha : (xs ++ [Value.func (.yield l) #[] #[]] ++ ys).toArray = (xs.toArray ++ #[.func (.yield l) #[] #[]]) ++ ys.toArray := by apply Array.ext'; simp
               rw [ha] at hc
               refine (zku hc).mono ?_
               rintro e w3 ⟨v, rfl, hK, hS⟩
               have sW : Same w w3 := ((Same.alloc _ _).trans (Same.alloc _ _)).trans hS
               obtain ⟨D2, ρ2, m2, c2, x2, n2, M2, -, hY2⟩ := hK
               obtain ⟨hm2, hQ⟩ := zxj hY2
               obtain ⟨s2, rfl⟩ := n2.pre
               obtain ⟨L2, q1, q2, q3, M3, hb2⟩ := M2.recd (hbL s2) rfl rfl hm2
               have hat : w3.heap[l]? = some (.loop (rc .ready)) := M2.own q3 (zzx _)
               have hat' := hat
               rw [hrc] at hat'
               refine ⟨_, _, run_endLoop hat' (by simp), ?_⟩
               refine ⟨sW.trans (Same.put _ _ _), .refl _ _, w.heap.size :: ds, D2, _, _, _, t, by show [_] ++ a.defers = _; rw [hd]; rfl, ⟨n2.le, ⟨[L] ++ s2, by simp⟩, fun b h1 h2 => ?_, fun b h1 h2 => ?_, ?_⟩, (M3.cput _).cdrop, ?_, hQ⟩
               · have hb : m.length ≠ b := by omega
                 rw [zzp hb, n2.keep b h1 (by simp; omega), zy7 (by rw [M.lch]; exact h2)]
               · have hb : m.length ≠ b := by omega
                 rw [zbe hb, n2.same b h1 (by simp; omega), zki h2]
               · rw [zbz]; omega
               · rw [zy8]; exact F.mono n2.le _
     · exact hh.elim
 | _ => intro r Y X hr ro Q t m D ρ chs C a w ds hX hY hrd xx hh M F hd; simp [vcC] at hh
theorem runS_S (hmix : P.follows .mixedOrders = true) (H : SH P) : ∀ n, zo1 P (runS P H n)
 | 0 => by
   intro hX hY hYr xx hh
   exact hh.elim
 | n + 1 => by
   intro hX hY hYr xx hh M F hd
   exact vcC_S hmix (runS_S hmix H n) _ none _ _ _ _ _ _ _ _ _ _ _ _ _ [] hX hY (fun _ => rfl) xx hh M F hd
theorem frzX_S {own : Bool} {y : V} (hs : frzX own m x = some (y, m')) (M : SAt D ρ m chs C h) (hv : Rp D ρ v x) : ∃ D' chs', Nx [] [] D ρ m chs D' ρ m' chs' ∧ SAt D' ρ m' chs' C h ∧ Rp D' ρ v y := by
 unfold frzX at hs
 split at hs
 · rename_i l
   cases own with
   | true => cases hs; exact ⟨D, chs, .refl, M, hv⟩
   | false =>
     simp only [cond_false] at hs
     split at hs
     · rename_i l' m1 h1
       cases hs
       obtain ⟨VS, rfl, hl⟩ := hv.t_inv
       obtain ⟨D2, c2, n2, M2, r2⟩ := zol (ro := []) (hr := []) h1 M hl
       exact ⟨D2, c2, n2, M2, .t r2⟩
     · cases hs
 · cases own with
   | true => cases hs; exact ⟨D, chs, .refl, M, hv⟩
   | false => exact frzV_S (ro := []) (hr := []) hs M hv
theorem zok (hmix : P.follows .mixedOrders = true) {H : SH P} (hf : P.funcs[f]? = some fn) (hn : (fn.name == "runtime.NumGoroutine") = false) {c : Code} (hc : fn.body = some c) {m : Mem} 
 (hh : runS P H n .out f [] [] c (retG P gc fn (endS H.own m.length Q)) (zf1 P gc fn args) m) : PRun P f m args Q := by
 intro D ρ chs C h vs M ha
 · refine (zyf (fi := f) (runS_S hmix H n) (X := fun _ _ => True) (fun _ _ _ => trivial) (Y := .out) trivial rfl trivial hf hc hn hh M ha).mono ?_
   rintro v h' ⟨D1, ρ1, m1, c1, x, n1, M1, hv, hq⟩
   obtain ⟨s, rfl⟩ := n1.pre
   unfold endS at hq
   split at hq
   · exact hq.elim
   · rename_i x1 m2 hfz
     obtain ⟨D2, c2, n2, M2, hv2⟩ := frzX_S hfz M1 hv
     generalize hix : clo m2 1000 (zae x1 ++ (m2.take m.length).flatMap za9) (zzh m.length) = ix at hq
     obtain ⟨hc2, hq⟩ := zaa hq
     simp only [zyy] at hc2
     have q1 := za0 hc2.1.1
     have q2 := za0 hc2.1.2
     have q3 := zbx hc2.2
     have hnd : ix.Nodup := hix ▸ zcv _ _ _ List.nodup_range
     have hpre : ∃ tl, ix = zzh m.length ++ tl := hix ▸ zmf _ _ _
     obtain ⟨tl, rfl⟩ := hpre
     obtain ⟨c', cs, Mk, gk, Ms⟩ := M2.sub hnd q3 fun b hb c hc => q2 c (z1m.2 ⟨b, hb, hc⟩)
     have hρ : (zzh m.length ++ tl).map (fun b => ((ρ ++ s)[b]?).getD ⟨0, none, 0, 0, none⟩) = ρ ++ tl.map (fun b => ((ρ ++ s)[b]?).getD ⟨0, none, 0, 0, none⟩) := by
      rw [zzr]
      congr 1
      apply z2f (by simp [M.len])
      intro i h1 h2
      simp only [z15, z3f]
      rw [zy7 h2, zy0 h2]; rfl
     rw [hρ] at Ms
     have hv3 := (ren_all (D := D2) (ρ := ρ ++ s) (f := fun b => zjs (zzh m.length ++ tl) b 0) (ρ' := (zzh m.length ++ tl).map (fun b => ((ρ ++ s)[b]?).getD ⟨0, none, 0, 0, none⟩))).1 hv2 fun b hb L hL => by
      obtain ⟨k, h4, h5⟩ := zer (k := 0) (q1 b hb)
      rw [h4, zze, zy5, h5, z0g, hL]; rfl
     rw [hρ] at hv3
     refine ⟨D2, _, cs, _, _, n1.le.trans n2.le, Ms.mono (.refl _) (C' := C) ?_, hv3, hq⟩
     have S := Ms.st
     exact (S.perm (C' := c' ++ (cs ++ C)) (by simp only [zzs]; exact zz2 _ _ _)).drops
theorem funS (hmix : P.follows .mixedOrders = true) {H : SH P} (hf : P.funcs[f]? = some fn) (hn : (fn.name == "runtime.NumGoroutine") = false) {m : Mem} (hh : zuz P H n f fn m args Q) : PRun P f m args Q := by
 unfold zuz at hh
 split at hh
 · exact hh.elim
 · rename_i c hc
   exact zok hmix hf hn hc hh
theorem zad (hmix : P.follows .mixedOrders = true) {H : SH P} (hf : P.funcs[f]? = some fn) (hn : (fn.name == "runtime.NumGoroutine") = false) {m : Mem} {V : Prop} (hV : V = zuz P H n f fn m args Q) (hh : V) : PRun P f m args Q :=
 funS hmix hf hn (hV ▸ hh)
end
structure Suf {α : Type} (L : List α) (x : Int) (l : List α) : Prop where
 k : ∃ k : Nat, x = k ∧ L.drop k = l
 b : L.length ≤ 1000000000000
section
variable {α β : Type} {L l : List α} {a : α} {x : Int} {e : α → β}
theorem Suf.zero (h : L.length ≤ 1000000000000) : Suf L 0 L := ⟨⟨0, rfl, rfl⟩, h⟩
theorem Suf.lt (s : Suf L x (a :: l)) : 0 ≤ x ∧ x < L.length := by
 obtain ⟨⟨k, rfl, hk⟩, -⟩ := s
 have : k < L.length := by
  apply Decidable.byContradiction
  intro hc
  rw [z0u (by omega)] at hk
  cases hk
 omega
theorem Suf.nlt (s : Suf L x []) : ¬ x < L.length := by
 obtain ⟨⟨k, rfl, hk⟩, -⟩ := s
 have := z3g.1 hk
 omega
theorem Suf.wr (s : Suf L x (a :: l)) : zyu .i64 (x + 1) = x + 1 := by
 have := s.lt
 have := s.b
 exact w64 (by omega) (by omega)
theorem Suf.succ (s : Suf L x (a :: l)) : Suf L (x + 1) l := by
 obtain ⟨⟨k, rfl, hk⟩, hb⟩ := s
 refine ⟨⟨k + 1, rfl, ?_⟩, hb⟩
 rw [show k + 1 = k + 1 from rfl, ← z08, hk]
 rfl
theorem Suf.get (s : Suf L x (a :: l)) : L[x.toNat]? = some a := by
 obtain ⟨⟨k, rfl, hk⟩, -⟩ := s
 have := congrArg List.head? hk
 simpa [List.head?_drop] using this
theorem Suf.d1 (s : Suf L x (a :: l)) : decide (x < ((L.map e).length : Int)) = true := by
 rw [zy2]; exact decide_eq_true s.lt.2
theorem Suf.d0 (s : Suf L x []) : decide (x < ((L.map e).length : Int)) = false := by
 rw [zy2]; exact decide_eq_false s.nlt
theorem zah {γ : Type} {R : List γ} {r : γ} {K : γ → Prop} (h0 : 0 ≤ x) (h : R[x.toNat]? = some r) : elL R x K = K r := by
 obtain ⟨k, rfl⟩ := z04 h0
 simp only [zzm] at h
 show (match R[k]? with | some r => K r | none => False) = K r
 rw [h]
theorem Suf.el (s : Suf L x (a :: l)) {K : β → Prop} : elL (L.map e) x K = K (e a) :=
 zah s.lt.1 (by rw [zy5, s.get]; rfl)
def SufI (L : List α) (P : List α → Prop) (x : Int) : Prop := ∃ l, Suf L x l ∧ P l
def zq1 (L : List α) (x : Int) : Nat := (L.length - x).toNat
variable {P : List α → Prop}
theorem SufI.zero (h : L.length ≤ 1000000000000) (h0 : P L) : SufI L P 0 := ⟨L, .zero h, h0⟩
theorem Suf.me (s : Suf L x (a :: l)) : zq1 L (x + 1) < zq1 L x := by
 have := s.lt
 unfold zq1
 omega
theorem Suf.step (s : Suf L x (a :: l)) (h : P l) : SufI L P (zyu .i64 (x + 1)) ∧ zq1 L (zyu .i64 (x + 1)) < zq1 L x := by
 rw [s.wr]
 exact ⟨⟨l, s.succ, h⟩, s.me⟩
end
structure At {α : Type} (L : List α) (x : Int) (t l : List α) : Prop where
 e : L = t ++ l
 k : x = t.length
 b : L.length ≤ 1000000000000
section
variable {α β : Type} {L l t : List α} {a : α} {x : Int} {e : α → β}
theorem At.suf (s : At L x t l) : Suf L x l := ⟨⟨t.length, s.k, by rw [s.e, List.drop_left]⟩, s.b⟩
theorem At.zero (h : L.length ≤ 1000000000000) : At L 0 [] L := ⟨rfl, rfl, h⟩
theorem At.succ (s : At L x t (a :: l)) : At L (x + 1) (t ++ [a]) l := ⟨by rw [s.e]; simp, by rw [s.k]; simp, s.b⟩
theorem At.d1 (s : At L x t (a :: l)) : decide (x < ((L.map e).length : Int)) = true := s.suf.d1
theorem At.d0 (s : At L x t []) : decide (x < ((L.map e).length : Int)) = false := s.suf.d0
theorem At.el (s : At L x t (a :: l)) {K : β → Prop} : elL (L.map e) x K = K (e a) := s.suf.el
theorem At.all (s : At L x t []) : t = L := by rw [s.e]; simp
def AtI (L : List α) (P : List α → List α → Prop) (x : Int) : Prop := ∃ t l, At L x t l ∧ P t l
theorem AtI.zero {P : List α → List α → Prop} (h : L.length ≤ 1000000000000) (h0 : P [] L) : AtI L P 0 := ⟨[], L, .zero h, h0⟩
theorem At.step {P : List α → List α → Prop} (s : At L x t (a :: l)) (h : P (t ++ [a]) l) : AtI L P (zyu .i64 (x + 1)) ∧ zq1 L (zyu .i64 (x + 1)) < zq1 L x := by
 rw [s.suf.wr]
 exact ⟨⟨_, l, s.succ, h⟩, s.suf.me⟩
end
section
variable {r : List U} {u : U} {K : Int → Prop} {n : Int} {s j : Nat}
theorem ug0 : ug (u :: r) 0 = some u := rfl
theorem ugs : ug (u :: r) (j + 1) = ug r j := rfl
theorem zbs : dI .i64 (some (.n n)) K = K n := rfl
theorem dL_l {c : List (List U)} {K : List (List U) → Prop} : dL s (some (.l s c)) K = K c := by
 show cond (zyw s s) (K c) False = K c
 rw [show zyw s s = true from Nat.beq_refl s]; rfl
end
section
variable {m : Mem} {n n' : Int} {b : Bool} {s z z' E : Nat} {r r' : List (List U)} {x : ByteArray} {p : Option (List U)}
theorem zaw {F : Int → Prop} : post [.I] [] F (.i n) m = F n := rfl
theorem zb7 {F : Bool → Prop} : post [.B] [] F (.u (.b b)) m = F b := rfl
theorem zwe {F : Int → Int → Prop} : post [.one (.i .u64), .one (.i .u64)] [] F (.t [.u (.i .u64 n), .u (.i .u64 n')]) m = F n n' := rfl
theorem zb1 {F : Int → Int → Prop} : post [.I, .I] [] F (.t [.i n, .i n']) m = F n n' := rfl
theorem post_L {F : List (List U) → Prop} : post [.L z] [] F (.l z r) m = F r := by
 simp only [post, resX, pkR, pkV, pk1, Nat.beq_refl, cond_true]; rfl
end
theorem PRun.mono {m : Mem} {Q' : V → Mem → Prop} (h : PRun P g m args Q) (k : ∀ x m', Q x m' → Q' x m') : PRun P g m args Q' :=
 fun D ρ chs C hp vs M F => (h D ρ chs C hp vs M F).mono fun _ _ ⟨D', ρ', chs', x, m', a, b, c, d⟩ => ⟨D', ρ', chs', x, m', a, b, c, k _ _ d⟩
section
variable {P : Program} {D D' : Fz} {ρ : List Loc} {m : Mem} {chs C : List zac} {h : zaf}
theorem RpC.data {D2 : Fz} {j : Nat} {u : U} (hL : ρ[j]? = some L) (hr : Rd D2 (.slice L.a L.n L.c) u) (le : Le D D2) : ∀ {arr : List Value} {l : List V} {i : Nat}, RpC D ρ arr l → zhv l i = .w j → RpC D2 ρ arr (zph l i (.u u))
 | _, [], i, h, hi => by simp [zhv] at hi
 | _, x :: xs, 0, h, hi => by
   simp only [zhv] at hi
   subst hi
   cases h with
   | cons a _ b =>
     cases a with
     | w hL' =>
       rw [hL] at hL'
       cases hL'
       have := b.mono le (s := [])
       rw [zzw] at this
       exact .cons (.u hr) (fun _ _ _ e => by cases e) this
 | _, x :: xs, i + 1, h, hi => by
   simp only [zhv] at hi
   cases h with
   | cons a c b =>
     have := a.mono le (s := [])
     rw [zzw] at this
     exact .cons this c (b.data hL hr le hi)
   | n e b => exact .n e (b.data hL hr le hi)
def frzAt (m : Mem) (b i : Nat) : Mem :=
 match mg m b with
 | .c l => match zhv l i with
   | .w j => match mg m j with
     | .w _ sz rows => ms (ms m j .x) b (.c (zph l i (.u (.l sz rows))))
     | _ => m
   | _ => m
 | _ => m
theorem SAt.frzAt (M : SAt D ρ m chs C h) (b i : Nat) : ∃ D' chs', Le D D' ∧ SAt D' ρ (frzAt m b i) chs' C h := by
 have self : ∃ D' chs', Le D D' ∧ SAt D' ρ m chs' C h := ⟨D, chs, .refl D, M⟩
 unfold YtacglpinmpncaaaGreat.frzAt
 split
 · rename_i l hb
   split
   · rename_i j hj
     split
     · rename_i E sz rows hr
       obtain ⟨L, ch, g1, g2, g3⟩ := M.get (b := j) (by rw [hr]; simp)
       rw [hr] at g3
       cases g3 with
       | w o hn =>
         obtain ⟨D2, le, S2, hR⟩ := o.freeze (M.front g2)
         rw [← hn] at hR
         have M2 : SAt D2 ρ (ms m j .x) (chs.set j []) C h := M.put g1 g2 S2.nil le .x
         have hne : b ≠ j := fun e => by rw [e, hr] at hb; cases hb
         obtain ⟨Lb, cb, k1, k2, k3⟩ := M2.get (b := b) (by rw [zbe (Ne.symm hne), hb]; simp)
         rw [zbe (Ne.symm hne), hb] at k3
         obtain ⟨Lb', cb', q1, q2, q3⟩ := M.get (b := b) (by rw [hb]; simp)
         rw [hb] at q3
         rw [k1] at q1
         cases q1
         cases k3 with
         | c hc =>
           have h3 : RpC D2 ρ _ (zph l i (.u (.l sz rows))) := hc.data (D2 := D2) g1 hR (.refl D2) hj
           have S3 : St D2 (_ :: (chs.set j [] ++ C).eraseIdx b) h := M2.front k2
           exact ⟨D2, _, le, M2.put k1 k2 S3 (.refl D2) (.c h3)⟩
     · exact self
   · exact self
 · exact self
theorem PRun.frz (b i : Nat) (hh : PRun P g m0 args fun x m => Q x (frzAt m b i)) : PRun P g m0 args Q := by
 intro D ρ chs C h vs M F
 refine (hh D ρ chs C h vs M F).mono ?_
 rintro v h' ⟨D', s, chs', x, m', le, M', hv, hq⟩
 obtain ⟨D2, chs2, le2, M2⟩ := M'.frzAt b i
 have := hv.mono le2 (s := [])
 rw [zzw] at this
 exact ⟨D2, s, chs2, x, _, le.trans le2, M2, this, hq⟩
def noRef (n : Nat) (x : V) (m : Mem) : Bool := (zae x).all (fun b => zzc (b + 1) n) && m.all fun a => (za9 a).all fun b => zzc (b + 1) n
theorem renA_id (a : AB) : zo2 id a = a := by
 cases a <;> simp only [zo2, zdp]
theorem SAt.trim {m1 : Mem} (M : SAt D (ρ' ++ [L]) (m1 ++ [.x]) chs' C h) (hv : Rp D (ρ' ++ [L]) v x) (hr : noRef m1.length x m1 = true) : ∃ c1, SAt D ρ' m1 c1 C h ∧ Rp D ρ' v x := by
 unfold noRef at hr
 simp only [zyy, z0d] at hr
 have hl : ρ'.length = m1.length := by have := M.len; simp at this; exact this
 have hc : chs'.length = m1.length + 1 := by have := M.lch; simpa using this
 have sub : ∀ {l : List Nat}, (∀ b ∈ l, zzc (b + 1) m1.length = true) → ∀ b ∈ l, ∀ K : Loc, (ρ' ++ [L])[b]? = some K → ρ'[id b]? = some K := fun hb b hm K hK => by
  have := zz0 (hb b hm)
  rwa [zy7 (by omega)] at hK
 obtain ⟨c1, c, rfl⟩ : ∃ c1 c, chs' = c1 ++ [c] := ⟨chs'.dropLast, chs'.getLast (by intro e; rw [e] at hc; simp at hc), (z21 _).symm⟩
 have hc1 : c1.length = m1.length := by simpa using hc
 have hlast : c = [] := by
  have := M.ent m1.length L .x c (by rw [zzn (by omega), hl]; simp) (by simp) (by rw [zzn (by omega), hc1]; simp)
  cases this
  rfl
 subst hlast
 refine ⟨c1, ⟨hl, hc1, fun i K ab ch h1 h2 h3 => ?_, M.st.perm (by simp)⟩, ?_⟩
 · have hi : i < m1.length := (zyz.1 h2).1
   have he := M.ent i K ab ch (by rw [zy7 (by omega)]; exact h1) (by rw [zy7 hi]; exact h2) (by rw [zy7 (by omega)]; exact h3)
   have := he.ren (ρ' := ρ') (f := id) (sub (hr.2 ab (zy4 h2)))
   rwa [renA_id] at this
 · have := (ren_all (D := D) (ρ := ρ' ++ [L]) (ρ' := ρ') (f := id)).1 hv (sub hr.1)
   rwa [zpx] at this
def ztb (n : Nat) (x : V) (m : Mem) : Mem := cond (zzc (n + 1) m.length && (match m.getLast? with | some .x => true | _ => false) && noRef m.dropLast.length x m.dropLast) m.dropLast m
theorem PRun.trim (hh : PRun P g m0 args fun x m => Q x (ztb m0.length x m)) : PRun P g m0 args Q := by
 intro D ρ chs C h vs M F
 refine (hh D ρ chs C h vs M F).mono ?_
 rintro v h' ⟨D', s, chs', x, m', le, M', hv, hq⟩
 unfold ztb at hq
 cases hc : (zzc (m0.length + 1) m'.length && (match m'.getLast? with | some .x => true | _ => false) && noRef m'.dropLast.length x m'.dropLast) with
 | false => rw [hc] at hq; exact ⟨D', s, chs', x, m', le, M', hv, hq⟩
 | true =>
   rw [hc] at hq
   simp only [zyy] at hc
   obtain ⟨⟨h1, h2⟩, h3⟩ := hc
   have h1 := zz0 h1
   have hne : m' ≠ [] := fun e => by rw [e] at h1; simp at h1
   have hl : m'.getLast? = some .x := by
    split at h2
    · assumption
    · cases h2
   have hm : m' = m'.dropLast ++ [.x] := by
    have := z21 hne
    rw [List.getLast?_eq_some_getLast hne] at hl
    cases hl2 : m'.getLast hne <;> rw [hl2] at hl <;> cases hl
    rw [hl2] at this
    exact this.symm
   have hlen := M'.len
   have hρ := M.len
   have hs : s ≠ [] := fun e => by rw [e, zzw] at hlen; omega
   have hs2 : ρ ++ s = (ρ ++ s.dropLast) ++ [s.getLast hs] := by rw [zy8, z21]
   rw [hm, hs2] at M'
   rw [hs2] at hv
   obtain ⟨c1, M2, hv2⟩ := M'.trim hv h3
   exact ⟨D', s.dropLast, c1, x, _, le, M2, hv2, hq⟩
end
section
variable {P : Program} {D D' : Fz} {ρ : List Loc} {m : Mem} {chs C : List zac} {h : zaf}
def packF (S : Mem → Prop) (D : Fz) (b : Nat) (ch : zac) : Prop :=
 ∃ (m : Mem) (ρ : List Loc) (chs : List zac), S m ∧ ρ.length = m.length ∧ chs.length = m.length ∧ (∃ L, ρ[0]? = some L ∧ L.b = b) ∧ chs.flatten = ch ∧
   ∀ (i : Nat) (L : Loc) (ab : AB) (c : zac), ρ[i]? = some L → m[i]? = some ab → chs[i]? = some c → Ent D ρ L ab c
def Ob.of (S : Mem → Prop) : Ob where
 f := packF S
 mono := by
  rintro D D' b c ⟨m, ρ, chs, h1, h2, h3, h4, h5, h6⟩ l
  exact ⟨m, ρ, chs, h1, h2, h3, h4, h5, fun i L ab c q1 q2 q3 => by have := (h6 i L ab c q1 q2 q3).mono l (s := []); rwa [zzw] at this⟩
theorem zep {ρ : List Loc} (h : RpL D ρ vs args) (hr : zag args = []) : RpL D ρ' vs args := by
 have := (ren_all (D := D) (ρ := ρ) (ρ' := ρ') (f := id)).2.1 h fun b hb => by rw [hr] at hb; cases hb
 rwa [zdp] at this
theorem zvv {ρ : List Loc} (h : Rp D ρ v x) (hr : zae x = []) : Rp D ρ' v x := by
 have := (ren_all (D := D) (ρ := ρ) (ρ' := ρ') (f := id)).1 h fun b hb => by rw [hr] at hb; cases hb
 rwa [zpx] at this
def Nrm (m m2 : Mem) : Prop := ∀ (D : Fz) (ρ : List Loc) (chs : List zac), ρ.length = m.length → chs.length = m.length →
 (∀ (i : Nat) (L : Loc) (ab : AB) (c : zac), ρ[i]? = some L → m[i]? = some ab → chs[i]? = some c → Ent D ρ L ab c) →
 ∃ (ρ2 : List Loc) (chs2 : List zac), ρ2.length = m2.length ∧ chs2.length = m2.length ∧ (∀ L, ρ[0]? = some L → ρ2[0]? = some L) ∧ chs.flatten.Perm chs2.flatten ∧
   ∀ (i : Nat) (L : Loc) (ab : AB) (c : zac), ρ2[i]? = some L → m2[i]? = some ab → chs2[i]? = some c → Ent D ρ2 L ab c
theorem Nrm.refl (m : Mem) : Nrm m m := fun D ρ chs h1 h2 h3 => ⟨ρ, chs, h1, h2, fun L h => h, .refl _, h3⟩
abbrev f4 (b : Nat) : Nat := if b = 3 then 1 else b
theorem Nrm.four {l : List V} {A B : AB} (hl : ∀ b ∈ za9 (.c l), b ≠ 1) (hA : ∀ b ∈ za9 A, b ≠ 1) (hB : ∀ b ∈ za9 B, b ≠ 1) : Nrm [.c l, .x, A, B] [zo2 f4 (.c l), zo2 f4 B, zo2 f4 A] := by
 intro D ρ chs h1 h2 h3
 obtain ⟨r0, r1, r2, r3, rfl⟩ : ∃ r0 r1 r2 r3, ρ = [r0, r1, r2, r3] := by
  match ρ, h1 with
  | [a, b, c, d], _ => exact ⟨a, b, c, d, rfl⟩
 obtain ⟨c0, c1, c2, c3, rfl⟩ : ∃ c0 c1 c2 c3, chs = [c0, c1, c2, c3] := by
  match chs, h2 with
  | [a, b, c, d], _ => exact ⟨a, b, c, d, rfl⟩
 have e0 := h3 0 r0 _ c0 rfl rfl rfl
 have e1 := h3 1 r1 _ c1 rfl rfl rfl
 have e2 := h3 2 r2 _ c2 rfl rfl rfl
 have e3 := h3 3 r3 _ c3 rfl rfl rfl
 cases e1 with
 | x =>
   have rn : ∀ (b : Nat), b ≠ 1 → ∀ L, [r0, r1, r2, r3][b]? = some L → [r0, r3, r2][f4 b]? = some L := by
    intro b hb L hL
    match b, hb, hL with
    | 0, _, h => exact h
    | 2, _, h => exact h
    | 3, _, h => exact h
    | b + 4, _, h => simp at h
   refine ⟨[r0, r3, r2], [c0, c3, c2], rfl, rfl, fun L h => h, ?_, ?_⟩
   · simp only [zzd, z2h, zzw, zz7]
     exact List.Perm.append_left _ z1q
   · rintro i L ab c q1 q2 q3
     match i, q1, q2, q3 with
     | 0, q1, q2, q3 => cases q1; cases q2; cases q3; exact e0.ren fun b hb => rn b (hl b hb)
     | 1, q1, q2, q3 => cases q1; cases q2; cases q3; exact e3.ren fun b hb => rn b (hB b hb)
     | 2, q1, q2, q3 => cases q1; cases q2; cases q3; exact e2.ren fun b hb => rn b (hA b hb)
     | i + 3, q1, q2, q3 => simp at q1
theorem PRun.pack {S : Mem → Prop} (hr : zag args = [])
 (hh : ∀ m, S m → PRun P g m (.r 0 0 :: args) fun x m' => zae x = [] ∧ ∃ (m2 : Mem) (S' : Mem → Prop), Nrm m' m2 ∧ S' m2 ∧ Q x [.o (Ob.of S')]) : PRun P g [.o (Ob.of S)] (.r 0 0 :: args) Q := by
 intro D ρ chs C h vs M F
 obtain ⟨L, rfl⟩ : ∃ L, ρ = [L] := by
  have := M.len
  match ρ, this with
  | [L], _ => exact ⟨L, rfl⟩
 obtain ⟨ch, rfl⟩ : ∃ c, chs = [c] := by
  have := M.lch
  match chs, this with
  | [c], _ => exact ⟨c, rfl⟩
 have he := M.ent 0 L _ ch rfl rfl rfl
 cases he with
 | o hf =>
   obtain ⟨m, ρ1, chs1, hS, l1, l2, ⟨L1, hL1, hb⟩, rfl, hent⟩ := hf
   have M1 : SAt D ρ1 m chs1 C h := ⟨l1, l2, hent, M.st.perm (by simp)⟩
   cases F with
   | cons h1 h2 =>
     obtain ⟨L', hL', rfl⟩ := h1.r_inv
     have : L' = L := by simpa using hL'.symm
     subst this
     have hp := Rp.r (D := D) (o := 0) hL1
     rw [hb] at hp
     have F1 := RpL.cons hp (zep (ρ' := ρ1) h2 hr)
     refine (hh m hS D ρ1 chs1 C h _ M1 F1).mono ?_
     rintro v h' ⟨D', s, chs', x, m', le, M', hv, hx, m2, S', hN, hS', hQ⟩
     have hL2 : (ρ1 ++ s)[0]? = some L1 := by rw [zy7 (by have := (zyz.1 hL1).1; exact this)]; exact hL1
     obtain ⟨ρ2, chs2, k1, k2, k3, k4, k5⟩ := hN D' (ρ1 ++ s) chs' M'.len M'.lch M'.ent
     refine ⟨D', [], [chs2.flatten], x, [.o (Ob.of S')], le, ⟨rfl, rfl, ?_, M'.st.perm (by simpa using k4.append_right C.flatten)⟩, zvv hv hx, hQ⟩
     rintro i K ab c q1 q2 q3
     cases i with
     | zero =>
       simp at q1 q2 q3
       subst q1 q2 q3
       exact .o ⟨m2, ρ2, chs2, hS', k1, k2, ⟨L1, k3 L1 hL2, hb⟩, rfl, k5⟩
     | succ i => simp at q2
theorem Ob.of_congr {S T : Mem → Prop} (h : ∀ m, S m ↔ T m) : Ob.of S = Ob.of T := by
 have : S = T := funext fun m => propext (h m)
 rw [this]
end
section
variable {P : Program} {D D' : Fz} {ρ : List Loc} {m : Mem} {chs C : List zac} {h : zaf}
def plU : U → Bool
 | .i _ _ => true
 | .b _ => true
 | .s _ => true
 | .l _ [] => true
 | .p none => true
 | _ => false
def plR : List U → Bool
 | [] => true
 | u :: l => plU u && plR l
def plW : V → Bool
 | .u x => plU x
 | .w _ => true
 | _ => false
def plL : List V → Bool
 | [] => true
 | x :: l => plW x && plL l
def plV : V → Bool
 | .t l => plL l
 | x => plW x
def zij : List (List U) → Bool
 | [] => true
 | r :: l => plR r && zij l
def plA : AB → Bool
 | .w _ _ rows => zij rows
 | .x => true
 | _ => false
def plM : Mem → Bool
 | [] => true
 | a :: l => plA a && plM l
theorem rd_pl {x : U} (hp : plU x = true) (h : Rd D v x) : Rd D' v x := by
 cases h with
 | int k n => exact .int k n
 | bool c => exact .bool c
 | str s => exact .str s
 | nil a c sz => exact .nil a c sz
 | pn => exact .pn
 | pp => cases hp
 | row b o c arr T f rows sz v h1 h2 h3 h4 h5 =>
   cases rows with
   | nil => exact .nil _ _ _
   | cons r l => cases hp
theorem zwp : ∀ {l : List U}, plR l = true → ∀ u ∈ l, plU u = true
 | [], _, u, hu => by simp at hu
 | x :: l, h, u, hu => by
   simp only [plR, zyy] at h
   rcases zy3.1 hu with rfl | hu
   · exact h.1
   · exact zwp h.2 u hu
theorem zkc : ∀ {l : List (List U)}, zij l = true → ∀ r ∈ l, plR r = true
 | [], _, u, hu => by simp at hu
 | x :: l, h, u, hu => by
   simp only [zij, zyy] at h
   rcases zy3.1 hu with rfl | hu
   · exact h.1
   · exact zkc h.2 u hu
theorem zwq : ∀ {l : Mem}, plM l = true → ∀ (i : Nat) (a : AB), l[i]? = some a → plA a = true
 | [], _, i, a, hu => by simp at hu
 | q :: l, h, 0, a, hu => by
   simp only [plM, zyy] at h
   simp at hu
   rw [← hu]; exact h.1
 | q :: l, h, i + 1, a, hu => by
   simp only [plM, zyy] at h
   exact zwq h.2 i a (by simpa using hu)
theorem rp_plW (hp : plW x = true) (h : Rp D ρ v x) : Rp D' ρ v x := by
 cases h with
 | u hr => exact .u (rd_pl hp hr)
 | w hL => exact .w hL
 | _ => cases hp
theorem zvw : ∀ {vs : List Value} {l : List V}, plL l = true → RpL D ρ vs l → RpL D' ρ vs l
 | _, [], _, h => by cases h; exact .nil
 | _, x :: l, hp, h => by
   simp only [plL, zyy] at hp
   cases h with
   | cons a b => exact .cons (rp_plW hp.1 a) (zvw hp.2 b)
theorem rp_plV (hp : plV x = true) (h : Rp D ρ v x) : Rp D' ρ v x := by
 cases h with
 | t hl => exact .t (zvw hp hl)
 | u hr => exact .u (rd_pl hp hr)
 | w hL => exact .w hL
 | _ => cases hp
theorem own_pl {E sz c : Nat} {a : Option Addr} {rows : List (List U)} {ch : zac} (hp : zij rows = true) (o : Own D E sz a c rows ch) : Own D' E sz a c rows ch := by
 cases o with
 | nil => exact .nil _
 | row b c arr rows v h1 h2 h3 h4 h5 => exact .row b c arr rows v h1 h2 h3 h4 fun i j r u a b => rd_pl (zwp (zkc hp r (zy4 a)) u (zy4 b)) (h5 i j r u a b)
theorem ent_pl {a : AB} {ch : zac} (hp : plA a = true) (h : Ent D ρ L a ch) : Ent D' ρ' L a ch := by
 cases h with
 | w o hn => exact .w (own_pl hp o) hn
 | x => exact .x
 | _ => cases hp
abbrev lendR (E sz : Nat) (rows : List (List U)) (Q : V → Mem → Prop) (x : V) (m : Mem) : Prop := plV x = true ∧ plM m = true ∧ Q (zci (· + 1) x) (.w E sz rows :: m)
theorem PRun.lend {E sz : Nat} {rows : List (List U)} (hr : zag args = []) (hh : PRun P g [] (.l sz rows :: args) (lendR E sz rows Q)) : PRun P g [.w E sz rows] (.w 0 :: args) Q := by
 intro D ρ chs C h vs M F
 obtain ⟨L, rfl⟩ : ∃ L, ρ = [L] := by
  have := M.len
  match ρ, this with
  | [L], _ => exact ⟨L, rfl⟩
 obtain ⟨ch, rfl⟩ : ∃ c, chs = [c] := by
  have := M.lch
  match chs, this with
  | [c], _ => exact ⟨c, rfl⟩
 have he := M.ent 0 L _ ch rfl rfl rfl
 cases he with
 | w own hn =>
   cases F with
   | cons h1 h2 =>
     obtain ⟨L', hL', rfl⟩ := h1.w_inv
     have : L' = L := by simpa using hL'.symm
     subst this
     have S : St D (ch :: C) h := M.st
     -- the data that there is meanwhile
     obtain ⟨D1, hD1, le1, S1, hR⟩ : ∃ D1 : Fz, (∀ p ∈ ch, D1 p.1 = some p.2) ∧ Le D D1 ∧ St D1 C h ∧ Rd D1 (.slice L'.a rows.length L'.c) (.l sz rows) := by
      obtain ⟨Lb, La, Ln, Lc, Lo⟩ := L'
      simp only at own
      cases own with
      | nil => exact ⟨D, fun p hp => by simp at hp, .refl D, S.drop, .nil _ _ _⟩
      | row b c arr rows v h1 h2 h3 h4 h5 =>
        obtain ⟨D', l, g, S'⟩ := S.freeze
        exact ⟨D', g, l, S', .row b 0 _ arr E (0, 0) rows sz v (g (b, _) (by simp)) h2.1 h3 (fun i j r u a b => by rw [zze]; exact h4 i j r u a b) fun i j r u a b => (h5 i j r u a b).mono l⟩
     have M1 : SAt D1 [] [] [] C h := ⟨rfl, rfl, fun i L ab ch h => by simp at h, S1⟩
     have F1 : RpL D1 [] (.slice L'.a L'.n L'.c :: _) (.l sz rows :: args) := .cons (.u (by rw [hn]; exact hR)) (zep (RpL.mono le1 (s := []) h2) hr)
     refine (hh D1 [] [] C h _ M1 F1).mono ?_
     rintro v h' ⟨D2, s, cs, x, m', le2, M2, hv, hpx, hpm, hq⟩
     rw [zz7] at M2 hv
     refine ⟨D, s, ch :: cs, _, _, .refl D, ⟨by simp [M2.len], by simp [M2.lch], ?_, ?_⟩, ?_, hq⟩
     · rintro i K ab c q1 q2 q3
       cases i with
       | zero =>
         simp at q1 q2 q3
         subst q1 q2 q3
         exact .w own hn
       | succ i => exact ent_pl (zwq hpm i ab (by simpa using q2)) (M2.ent i K ab c (by simpa using q1) (by simpa using q2) (by simpa using q3))
     · have S2 := M2.st
       have hch : ∀ p ∈ ch, h'[p.1]? = some p.2 ∧ p.1 ∉ ids (cs ++ C) := fun p hp => S2.fz _ _ (le2 _ _ (hD1 p hp))
       refine ⟨?_, ?_, ?_⟩
       · show (zzf _ (List.flatten (ch :: (cs ++ C)))).Nodup
         rw [zzd, zzr]
         refine z01.2 ⟨?_, S2.nd, ?_⟩
         · have := S.nd
           rw [ids, zzd, zzr] at this
           exact (z01.1 this).1
         · rintro a ha b hb rfl
           obtain ⟨p, hp, rfl⟩ := zzu.1 ha
           exact (hch p hp).2 hb
       · intro p hp
         rw [zz6, zzd] at hp
         rcases zy6.1 hp with hp | hp
         · exact (hch p hp).1
         · exact S2.own p hp
       · intro b o hb
         obtain ⟨e1, e2⟩ := S2.fz _ _ (le2 _ _ (le1 _ _ hb))
         refine ⟨e1, fun hm => ?_⟩
         rw [zz6, ids, zzd, zzr] at hm
         rcases zy6.1 hm with hm | hm
         · have := (S.fz _ _ hb).2
           rw [ids, zzd, zzr] at this
           exact this (zy6.2 (.inl hm))
         · exact e2 hm
     · have h3 := rp_plV (D' := D) hpx hv
       exact (ren_all (D := D) (ρ := s) (ρ' := [L'] ++ s) (f := (· + 1))).1 h3 fun b hb L hL => by simpa using hL
end
def zf5 (fn : Func) : Code := match fn.body with
 | some c => c
 | none => .skip
abbrev q1 : List BP := [.c [.i .i64, .l 7, .i .i64, .l 4, .i .i64, .i .i64, .i .i64, .i .i64, .r 1 0, .r 2 0, .r 3 0, .r 4 0, .r 5 0, .r 6 0, .ow 48 16], .c [.l 5, .i .i64], .c [.l 5, .n 33], .A, .A, .c [.l 13, .i .i64], .A, .X]
abbrev q2 : List RP := [.agg [.i .i64, .i .i64, .i .i64, .i .i64, .i .i64, .i .i64, .i .i64, .i .i64, .i .i64, .i .i64, .i .i64, .l 2, .i .i64, .i .i64, .i .i64, .i .i64], .I]
abbrev q3 : List BP := [.c [.l 5, .n 33]]
abbrev q4 : List BP := [.c [.l 13, .i .i64]]
abbrev q5 : List RP := [.agg [.i .i64, .i .i64, .i .i64, .i .i64, .i .i64, .i .i64, .i .i64, .i .i64, .i .i64], .I]
abbrev q6 : List BP := [.c [.ow 103 3, .m 2, .i .i64, .i .i64], .X, .mp .n 1 false]
abbrev q7 : List RP := [.I]
abbrev q8 : List RP := [.agg [.i .i64, .i .i64, .i .i64, .i .i64], .I]
abbrev q9 : List BP := [.c [.l 5, .i .i64]]
abbrev q10 : List RP := [.I, .I]
abbrev q11 : List RP := [.agg [.i .i64, .i .i64, .i .i64, .l 2, .i .i64, .i .i64, .i .i64], .I]
abbrev q12 : List RP := [.I, .B]
abbrev q13 : List BP := [.X, .c [.i .i64]]
abbrev q14 (a : Int) (b : List (List U)) (c : Int) (d : List (List U)) (e f g h : Int) (i : List (List U)) (j : Int) (k : List (List U)) (l : List Int) (m n : Ob) (o : List (List U)) (p : Int) (q : Ob) (r : List (List U)) : Mem := [.c [.i a, .l 7 b, .i c, .l 4 d, .i e, .i f, .i g, .i h, .r 1 0, .r 2 0, .r 3 0, .r 4 0, .r 5 0, .r 6 0, .w 7], .c [.l 5 i, .i j], .c [.l 5 k, .n .i64 33 l], .o m, .o n, .c [.l 13 o, .i p], .o q, .w 48 16 r]
abbrev q15 (a : List (List U)) (b : List Int) : Mem := [.c [.l 5 a, .n .i64 33 b]]
abbrev q16 (a b c d : Int) : V := .a [.i a, .i b, .i c, .i d]
abbrev q17 (a b c d e f g h i j k : Int) (l : List (List U)) (m n o p : Int) : V := .a [.i a, .i b, .i c, .i d, .i e, .i f, .i g, .i h, .i i, .i j, .i k, .l 2 l, .i m, .i n, .i o, .i p]
abbrev q18 (a : Int) (b : List (List U)) (c : Int) (d : List (List U)) (e f g h : Int) (i : List (List U)) (j : Int) (k : List (List U)) (l : List Int) (m n : Ob) (o : List (List U)) (p : Int) (q : Ob) (r : List (List U)) : Mem := [.c [.i a, .l 7 b, .i c, .l 4 d, .i e, .i f, .i g, .i h, .r 1 0, .r 2 0, .r 3 0, .r 4 0, .r 5 0, .r 6 0, .w 8], .c [.l 5 i, .i j], .c [.l 5 k, .n .i64 33 l], .o m, .o n, .c [.l 13 o, .i p], .o q, .x, .w 48 16 r]
abbrev q19 (a b c d e : Int) : List U := [.n a, .n b, .n c, .n d, .n e]
abbrev q20 (a : Int) (b c : Nat) (d : Int) (e f : Nat) (g : Int) (h i : Nat) (j : Int) (k l : Nat) (m : List (MK × List U)) (n o p q r s t u : List (List U)) : Mem := [.c [.w 1, .m 2], .cw 270 3 4 [.i a, .w b, .w c, .i d, .w e, .w f, .i g, .w h, .w i, .i j, .w k, .w l], .p .n 1 false m, .w 3 1 n, .w 3 1 o, .w 3 1 p, .w 3 1 q, .w 3 1 r, .w 3 1 s, .w 3 1 t, .w 3 1 u]
abbrev q21 (a : Int) (b : List (List U)) (c : Int) (d : List (List U)) (e f g h : Int) (i : List (List U)) (j : Int) (k : List (List U)) (l : List Int) (m n : Ob) (o : List (List U)) (p : Int) (q : Ob) (r : List (List U)) (s t u v w x y z a26 a27 a28 a29 a30 a31 a32 a33 a34 a35 a36 a37 a38 a39 a40 a41 : Int) (a42 : List (List U)) (a43 a44 a45 a46 a47 a48 a49 a50 a51 a52 a53 a54 a55 a56 : Int) (a57 : List (List U)) (a58 a59 a60 a61 a62 : Int) : Mem := [.c [.i a, .l 7 b, .i c, .l 4 d, .i e, .i f, .i g, .i h, .r 1 0, .r 2 0, .r 3 0, .r 4 0, .r 5 0, .r 6 0, .w 7], .c [.l 5 i, .i j], .c [.l 5 k, .n .i64 33 l], .o m, .o n, .c [.l 13 o, .i p], .o q, .w 48 16 r, .c [.i s, .i t, .i u, .i v, .i w, .i x, .i y, .i z, .i a26, .i a27, .i a28, .i a29, .i a30, .i a31, .i a32, .i a33, .i a34, .i a35, .i a36, .i a37, .i a38, .i a39, .i a40, .i a41, .l 2 a42, .i a43, .i a44, .i a45, .i a46, .i a47, .i a48, .i a49, .i a50, .i a51, .i a52, .i a53, .i a54, .i a55, .i a56, .l 2 a57, .i a58, .i a59, .i a60, .i a61, .i a62]]
abbrev q22 (a b c : Int) (d : List (List U)) (e f g : Int) : V := .a [.i a, .i b, .i c, .l 2 d, .i e, .i f, .i g]
abbrev q23 (a b : Int) (c : List (List U)) (d : List (MK × List U)) : Mem := [.c [.w 1, .m 2, .i a, .i b], .w 103 3 c, .p .n 1 false d]
abbrev q24 (a : Int) (b : List (List U)) (c : Int) (d : List (List U)) (e f g h : Int) : V := .a [.i a, .l 7 b, .i c, .l 4 d, .i e, .i f, .i g, .i h]
abbrev q25 (a b c d e f g h i : Int) : V := .a [.i a, .i b, .i c, .i d, .i e, .i f, .i g, .i h, .i i]
abbrev q26 : V := .a [.r 0 0, .r 1 0, .r 2 0, .r 3 0, .r 4 0]
abbrev q27 (a b c d e f g h i j k : Int) (l : List (List U)) (m n o p : Int) : List U := [.n a, .n b, .n c, .n d, .n e, .n f, .n g, .n h, .n i, .n j, .n k, .l 2 l, .n m, .n n, .n o, .n p]
abbrev q28 (a b c d e f g h i j k l m n o p q r s t u v w x : Int) (y : List (List U)) (z a26 a27 a28 a29 a30 a31 a32 a33 a34 a35 a36 a37 a38 : Int) (a39 : List (List U)) (a40 a41 a42 a43 a44 : Int) : Mem := [.c [.i a, .i b, .i c, .i d, .i e, .i f, .i g, .i h, .i i, .i j, .i k, .i l, .i m, .i n, .i o, .i p, .i q, .i r, .i s, .i t, .i u, .i v, .i w, .i x, .l 2 y, .i z, .i a26, .i a27, .i a28, .i a29, .i a30, .i a31, .i a32, .i a33, .i a34, .i a35, .i a36, .i a37, .i a38, .l 2 a39, .i a40, .i a41, .i a42, .i a43, .i a44]]
abbrev q29 (a b c d e f g h i : Int) : List U := [.n a, .n b, .n c, .n d, .n e, .n f, .n g, .n h, .n i]
abbrev q30 (a b : Int) (c : List (MK × List U)) (d : List (List U)) : Mem := [.c [.w 3, .m 2, .i a, .i b], .x, .p .n 1 false c, .w 103 3 d]
abbrev q31 (a : List Int) (b : List (List U)) : Mem := [.c [.w 1, .n .i64 33 a], .w 279 5 b]
abbrev q32 (a : Int) (b c : Nat) (d : Int) (e f : Nat) (g : Int) (h i : Nat) (j : Int) (k l : Nat) (m n o p q r s t : List (List U)) (u : List (MK × List U)) : Mem := [.c [.w 1, .m 10], .cw 270 3 4 [.i a, .w b, .w c, .i d, .w e, .w f, .i g, .w h, .w i, .i j, .w k, .w l], .w 3 1 m, .w 3 1 n, .w 3 1 o, .w 3 1 p, .w 3 1 q, .w 3 1 r, .w 3 1 s, .w 3 1 t, .p .n 1 false u]
abbrev q33 (a : List (List U)) (b : Int) (c : List (List U)) (d : List Int) (e : Ob) : Mem := [.c [.l 5 a, .i b], .c [.l 5 c, .n .i64 33 d], .o e, .c [.nl 4, .nm]]
abbrev q34 (a : Int) (b : List (List U)) : Mem := [.c [.w 1, .i a], .w 279 5 b]
abbrev q35 (a : Int) (b c : Nat) (d : Int) (e f : Nat) (g : Int) (h i : Nat) (j : Int) (k l : Nat) (m : List (MK × List U)) (n o p q r s t u : List (List U)) : Mem := [.c [.w 1, .m 2], .cw 270 3 4 [.i a, .w b, .w c, .i d, .w e, .w f, .i g, .w h, .w i, .i j, .w k, .w l], .p .n 1 false m, .x, .x, .w 3 1 n, .w 3 1 o, .w 3 1 p, .w 3 1 q, .w 3 1 r, .w 3 1 s, .w 3 1 t, .w 3 1 u]
abbrev q36 (a : Int) (b c : Nat) (d : Int) (e f : Nat) (g : Int) (h i : Nat) (j : Int) (k l : Nat) (m : List (MK × List U)) (n o p q r s t u : List (List U)) : Mem := [.c [.w 1, .m 2], .cw 270 3 4 [.i a, .w b, .w c, .i d, .w e, .w f, .i g, .w h, .w i, .i j, .w k, .w l], .p .n 1 false m, .w 3 1 n, .w 3 1 o, .x, .x, .w 3 1 p, .w 3 1 q, .w 3 1 r, .w 3 1 s, .w 3 1 t, .w 3 1 u]
abbrev q37 (a : Int) (b c : Nat) (d : Int) (e f : Nat) (g : Int) (h i : Nat) (j : Int) (k l : Nat) (m : List (MK × List U)) (n o p q r s t u : List (List U)) : Mem := [.c [.w 1, .m 2], .cw 270 3 4 [.i a, .w b, .w c, .i d, .w e, .w f, .i g, .w h, .w i, .i j, .w k, .w l], .p .n 1 false m, .w 3 1 n, .w 3 1 o, .w 3 1 p, .w 3 1 q, .x, .x, .w 3 1 r, .w 3 1 s, .w 3 1 t, .w 3 1 u]
abbrev q38 (a : Int) (b c : Nat) (d : Int) (e f : Nat) (g : Int) (h i : Nat) (j : Int) (k l : Nat) (m : List (MK × List U)) (n o p q r s t u : List (List U)) : Mem := [.c [.w 1, .m 2], .cw 270 3 4 [.i a, .w b, .w c, .i d, .w e, .w f, .i g, .w h, .w i, .i j, .w k, .w l], .p .n 1 false m, .w 3 1 n, .w 3 1 o, .w 3 1 p, .w 3 1 q, .w 3 1 r, .w 3 1 s, .x, .x, .w 3 1 t, .w 3 1 u]
abbrev q40 (a : List (List U)) (b : Int) (c : List (List U)) (d : List Int) (e : Ob) (f : Int) (g : List (List U)) : Mem := [.c [.l 5 a, .i b], .c [.l 5 c, .n .i64 33 d], .o e, .c [.nl 4, .nm], .c [.nl 13, .i f], .w 136 2 g]
abbrev q41 (a : List (List U)) (b : Int) (c : List (List U)) (d : List Int) (e : Ob) (f : Int) (g : List (List U)) (h : Int) (i : List (List U)) (j k l m n : Int) (o : Ob) : Mem := [.c [.l 5 a, .i b], .c [.l 5 c, .n .i64 33 d], .o e, .c [.nl 4, .nm], .c [.i f, .l 7 g, .i h, .l 4 i, .i j, .i k, .i l, .i m, .r 0 0, .r 1 0, .r 2 0, .r 3 0, .r 5 0, .r 6 0, .nl 16], .c [.nl 13, .i n], .o o]
abbrev q42 (a : List (List U)) (b : Int) (c : List (List U)) (d : List Int) (e : Ob) (f g : Int) (h : List (List U)) (i : Int) (j : List (List U)) (k l m n : Int) (o : Ob) : Mem := [.c [.l 5 a, .i b], .c [.l 5 c, .n .i64 33 d], .o e, .c [.nl 4, .nm], .c [.nl 13, .i f], .x, .c [.i g, .l 7 h, .i i, .l 4 j, .i k, .i l, .i m, .i n, .r 0 0, .r 1 0, .r 2 0, .r 3 0, .r 4 0, .r 7 0, .nl 16], .o o]
structure K4 where
 a : Int
 b : Int
 c : Int
 d : Int
deriving DecidableEq
def K4.lt (x y : K4) : Prop := x.a < y.a ∨ (x.a = y.a ∧ (x.b < y.b ∨ (x.b = y.b ∧ (x.c < y.c ∨ (x.c = y.c ∧ x.d < y.d)))))
instance (x y : K4) : Decidable (x.lt y) := by unfold K4.lt; infer_instance
theorem K4.ext' {x y : K4} (h1 : x.a = y.a) (h2 : x.b = y.b) (h3 : x.c = y.c) (h4 : x.d = y.d) : x = y := by
 cases x; cases y; simp_all
theorem K4.irr (x : K4) : ¬ x.lt x := by unfold K4.lt; omega
theorem K4.lt.trans {x y z : K4} (h : x.lt y) (k : y.lt z) : x.lt z := by unfold K4.lt at *; omega
theorem K4.tri (x y : K4) : x.lt y ∨ x = y ∨ y.lt x := by
 by_cases h : x = y
 · exact .inr (.inl h)
 · have : ¬ (x.a = y.a ∧ x.b = y.b ∧ x.c = y.c ∧ x.d = y.d) := fun ⟨h1, h2, h3, h4⟩ => h (K4.ext' h1 h2 h3 h4)
   unfold K4.lt
   omega
theorem K4.asym {x y : K4} (h : x.lt y) : ¬ y.lt x := fun k => K4.irr x (h.trans k)
abbrev Tb := List (K4 × Int)
def Srt (l : Tb) : Prop := l.Pairwise fun x y => x.1.lt y.1
def za4 (k : K4) : Tb → Nat
 | [] => 0
 | r :: l => if r.1.lt k then za4 k l + 1 else 0
def zau (k : K4) : Tb → Option Int
 | [] => none
 | r :: l => if r.1 = k then some r.2 else zau k l
def zam (k : K4) (l : Tb) : Int := (zau k l).getD 0
def zdb (k : K4) (v : Int) : Tb → Tb
 | [] => [(k, v)]
 | r :: l => if r.1.lt k then r :: zdb k v l else if r.1 = k then (k, v) :: l else (k, v) :: r :: l
def zj6 (k : K4) : Tb → Tb
 | [] => []
 | r :: l => if r.1 = k then l else r :: zj6 k l
def zfi : Tb → Int
 | [] => 0
 | r :: l => r.2 + zfi l
theorem Srt.tail {r : K4 × Int} {l : Tb} (h : Srt (r :: l)) : Srt l := (zz5.1 h).2
theorem Srt.head {r : K4 × Int} {l : Tb} (h : Srt (r :: l)) : ∀ s ∈ l, r.1.lt s.1 := (zz5.1 h).1
theorem zhz (k : K4) : ∀ l : Tb, za4 k l ≤ l.length
 | [] => zy9 _
 | r :: l => by
   simp only [za4]
   split
   · have := zhz k l; simp only [zzg]; omega
   · simp
theorem zpl {k : K4} : ∀ {l : Tb} {i : Nat} {r : K4 × Int}, i < za4 k l → l[i]? = some r → r.1.lt k
 | [], i, r, h, hr => by simp at hr
 | s :: l, i, r, h, hr => by
   simp only [za4] at h
   split at h
   · rename_i hs
     cases i with
     | zero => simp at hr; subst hr; exact hs
     | succ i => exact zpl (l := l) (i := i) (by omega) (by simpa using hr)
   · omega
theorem zpm {k : K4} : ∀ {l : Tb} {i : Nat} {r : K4 × Int}, Srt l → za4 k l ≤ i → l[i]? = some r → ¬ r.1.lt k
 | [], i, r, _, h, hr => by simp at hr
 | s :: l, i, r, hs, h, hr => by
   simp only [za4] at h
   split at h
   · cases i with
     | zero => omega
     | succ i => exact zpm (l := l) (i := i) hs.tail (by omega) (by simpa using hr)
   · rename_i hk
     cases i with
     | zero => simp at hr; subst hr; exact hk
     | succ i =>
       have hm : r ∈ l := zy4 (by simpa using hr : l[i]? = some r)
       exact fun h2 => hk ((hs.head r hm).trans h2)
theorem tpos_eq {k : K4} {l : Tb} (hs : Srt l) (hn : n ≤ l.length) (h1 : ∀ (i : Nat) (r : K4 × Int), i < n → l[i]? = some r → r.1.lt k) (h2 : ∀ (i : Nat) (r : K4 × Int), n ≤ i → l[i]? = some r → ¬ r.1.lt k) : n = za4 k l := by
 have hle := zhz k l
 rcases Nat.lt_trichotomy n (za4 k l) with h | h | h
 · have hlt : n < l.length := by omega
   exact absurd (zpl h (zy0 hlt)) (h2 n _ (zy9 _) (zy0 hlt))
 · exact h
 · have hlt : za4 k l < l.length := by omega
   exact absurd (h1 _ _ h (zy0 hlt)) (zpm hs (zy9 _) (zy0 hlt))
theorem zdc {k : K4} : ∀ {l : Tb}, (∀ r ∈ l, k.lt r.1) → zau k l = none
 | [], _ => rfl
 | r :: l, h => by
   simp only [zau]
   rw [if_neg fun e => K4.irr k (by have := h r zzq; rwa [e] at this), zdc fun s hs => h s (zzo _ hs)]
theorem zpo {k : K4} : ∀ {l : Tb}, Srt l → zau k l = (match l[za4 k l]? with
 | some r => if r.1 = k then some r.2 else none
 | none => none)
 | [], _ => rfl
 | r :: l, hs => by
   simp only [zau, za4]
   by_cases h : r.1.lt k
   · rw [if_pos h, if_neg fun e => K4.irr k (by rwa [e] at h), z2c]
     exact zpo hs.tail
   · rw [if_neg h, z2u]
     dsimp only
     by_cases e : r.1 = k
     · rw [if_pos e, if_pos e]
     · rw [if_neg e, if_neg e]
       rcases K4.tri r.1 k with h1 | h1 | h1
       · exact absurd h1 h
       · exact absurd h1 e
       · exact zdc fun s hs' => h1.trans (hs.head s hs')
theorem zpk {k : K4} {v : Int} : ∀ {l : Tb}, Srt l → zdb k v l = l.take (za4 k l) ++ (k, v) :: l.drop (za4 k l + bif (zau k l).isSome then 1 else 0)
 | [], _ => rfl
 | r :: l, hs => by
   simp only [zdb, za4, zau]
   by_cases h : r.1.lt k
   · rw [if_pos h, if_pos h, if_neg fun e => K4.irr k (by rwa [e] at h), List.take_succ_cons, zpk hs.tail]
     simp only [zz6]
     rw [Nat.add_right_comm, List.drop_succ_cons]
   · rw [if_neg h, if_neg h]
     by_cases e : r.1 = k
     · rw [if_pos e, if_pos e]; simp
     · rw [if_neg e, if_neg e]
       have : zau k l = none := by
        rcases K4.tri r.1 k with h1 | h1 | h1
        · exact absurd h1 h
        · exact absurd h1 e
        · exact zdc fun s hs' => h1.trans (hs.head s hs')
       rw [this]; simp
theorem zhd {k : K4} {v : Int} : ∀ {l : Tb} {r : K4 × Int}, r ∈ zdb k v l → r = (k, v) ∨ r ∈ l
 | [], r, h => by simpa [zdb] using h
 | s :: l, r, h => by
   simp only [zdb] at h
   split at h
   · rcases zy3.1 h with e | e
     · exact .inr (by simp [e])
     · rcases zhd e with e2 | e2
       · exact .inl e2
       · exact .inr (zzo _ e2)
   · split at h
     · rcases zy3.1 h with e | e
       · exact .inl e
       · exact .inr (zzo _ e)
     · rcases zy3.1 h with e | e
       · exact .inl e
       · exact .inr e
theorem zhc {k : K4} {v : Int} : ∀ {l : Tb}, Srt l → Srt (zdb k v l)
 | [], _ => List.pairwise_singleton _ _
 | r :: l, hs => by
   simp only [zdb]
   by_cases h : r.1.lt k
   · rw [if_pos h]
     refine zz5.2 ⟨fun s hs' => ?_, zhc hs.tail⟩
     rcases zhd hs' with e | e
     · rw [e]; exact h
     · exact hs.head s e
   · rw [if_neg h]
     by_cases e : r.1 = k
     · rw [if_pos e]
       refine zz5.2 ⟨fun s hs' => ?_, hs.tail⟩
       have := hs.head s hs'
       rwa [e] at this
     · rw [if_neg e]
       have hk : k.lt r.1 := by
        rcases K4.tri r.1 k with h1 | h1 | h1
        · exact absurd h1 h
        · exact absurd h1 e
        · exact h1
       refine zz5.2 ⟨fun s hs' => ?_, hs⟩
       rcases zy3.1 hs' with e2 | e2
       · rw [e2]; exact hk
       · exact hk.trans (hs.head s e2)
theorem zk2 {k : K4} {v : Int} (j : K4) : ∀ {l : Tb}, Srt l → zau j (zdb k v l) = if j = k then some v else zau j l
 | [], _ => by
   simp only [zdb, zau]
   by_cases e : k = j
   · rw [if_pos e, if_pos e.symm]
   · rw [if_neg e, if_neg fun h => e h.symm]
 | r :: l, hs => by
   simp only [zdb]
   by_cases h : r.1.lt k
   · rw [if_pos h]
     simp only [zau]
     by_cases e : r.1 = j
     · rw [if_pos e, if_pos e, if_neg fun e2 => K4.irr k (by rwa [e, e2] at h)]
     · rw [if_neg e, if_neg e]
       exact zk2 j hs.tail
   · rw [if_neg h]
     by_cases e : r.1 = k
     · rw [if_pos e]
       simp only [zau]
       by_cases e2 : k = j
       · rw [if_pos e2, if_pos e2.symm]
       · rw [if_neg e2, if_neg (fun h => e2 h.symm), if_neg (fun h => e2 (by rw [← e, h]))]
     · rw [if_neg e]
       simp only [zau]
       by_cases e2 : k = j
       · rw [if_pos e2, if_pos e2.symm]
       · rw [if_neg e2, if_neg (show ¬ j = k from fun h => e2 h.symm)]
theorem zq8 {k : K4} {v : Int} : ∀ {l : Tb}, Srt l → zfi (zdb k v l) = zfi l + v - zam k l
 | [], _ => by simp [zdb, zfi, zam, zau]
 | r :: l, hs => by
   simp only [zdb]
   by_cases h : r.1.lt k
   · have e : ¬ r.1 = k := fun e => K4.irr k (by rwa [e] at h)
     rw [if_pos h]
     simp only [zfi, zam, zau, if_neg e]
     rw [zq8 hs.tail]
     simp only [zam]
     omega
   · rw [if_neg h]
     by_cases e : r.1 = k
     · rw [if_pos e]
       simp only [zfi, zam, zau, if_pos e, zz8]
       omega
     · rw [if_neg e]
       have : zau k l = none := by
        rcases K4.tri r.1 k with h1 | h1 | h1
        · exact absurd h1 h
        · exact absurd h1 e
        · exact zdc fun s hs' => h1.trans (hs.head s hs')
       simp only [zfi, zam, zau, if_neg e, this, Option.getD_none]
       omega
theorem zk3 {k : K4} : ∀ {l : Tb} {r : K4 × Int}, r ∈ zj6 k l → r ∈ l
 | [], r, h => by simp [zj6] at h
 | s :: l, r, h => by
   simp only [zj6] at h
   split at h
   · exact zzo _ h
   · rcases zy3.1 h with e | e
     · simp [e]
     · exact zzo _ (zk3 e)
theorem zrc {k : K4} : ∀ {l : Tb}, Srt l → Srt (zj6 k l)
 | [], _ => .nil
 | r :: l, hs => by
   simp only [zj6]
   split
   · exact hs.tail
   · exact zz5.2 ⟨fun s hs' => hs.head s (zk3 hs'), zrc hs.tail⟩
theorem zh1 {k : K4} {l : Tb} (h : ∀ r ∈ l, r.1 ≠ k) : zau k l = none := by
 induction l with
 | nil => rfl
 | cons r l ih =>
   simp only [zau]
   rw [if_neg (h r zzq)]
   exact ih fun s hs => h s (zzo _ hs)
theorem zk5 {k : K4} (j : K4) : ∀ {l : Tb}, Srt l → zau j (zj6 k l) = if j = k then none else zau j l
 | [], _ => by simp [zj6, zau]
 | r :: l, hs => by
   simp only [zj6]
   by_cases e : r.1 = k
   · rw [if_pos e]
     by_cases e2 : j = k
     · rw [if_pos e2]
       exact zh1 fun s hs' e3 => by have := hs.head s hs'; rw [e, e3, e2] at this; exact K4.irr _ this
     · rw [if_neg e2]
       simp only [zau]
       rw [if_neg fun h => e2 (by rw [← h, e])]
   · rw [if_neg e]
     simp only [zau]
     by_cases e2 : r.1 = j
     · rw [if_pos e2, if_pos e2, if_neg fun h => e (by rw [e2, h])]
     · rw [if_neg e2, if_neg e2]
       exact zk5 j hs.tail
theorem zpp {k : K4} : ∀ {l : Tb}, Srt l → zj6 k l = bif (zau k l).isSome then l.take (za4 k l) ++ l.drop (za4 k l + 1) else l
 | [], _ => rfl
 | r :: l, hs => by
   simp only [zj6, za4, zau]
   by_cases e : r.1 = k
   · rw [if_pos e, if_pos e, if_neg fun h => K4.irr k (by rwa [e] at h)]
     simp
   · rw [if_neg e, if_neg e]
     by_cases h : r.1.lt k
     · rw [if_pos h, zpp hs.tail]
       cases (zau k l).isSome <;> simp
     · have : zau k l = none := by
        rcases K4.tri r.1 k with h1 | h1 | h1
        · exact absurd h1 h
        · exact absurd h1 e
        · exact zdc fun s hs' => h1.trans (hs.head s hs')
       rw [if_neg h, zpp hs.tail, this]
       simp
theorem zen {k : K4} {v : Int} : ∀ {l : Tb}, zau k l = some v → (k, v) ∈ l
 | [], h => by cases h
 | r :: l, h => by
   simp only [zau] at h
   split at h
   · rename_i e
     cases h
     subst e
     exact zzq
   · exact zzo _ (zen h)
theorem zh2 {k : K4} {v : Int} : ∀ {l : Tb}, Srt l → (k, v) ∈ l → zau k l = some v
 | [], _, h => by cases h
 | r :: l, hs, h => by
   simp only [zau]
   rcases zy3.1 h with e | e
   · subst e; rw [if_pos rfl]
   · rw [if_neg fun e2 => K4.irr k (by have := hs.head _ e; rwa [e2] at this)]
     exact zh2 hs.tail e
section
variable {P : Program}
def litK (k : Option Int) (x : V) (K : V → Prop) : Prop :=
 match x, k with
 | .t [.u (.i .i64 n), .u (.i .i64 (.ofNat 0))], some k => n = k ∧ K (.t [.i k, .i 0])
 | .t [.u (.i .i64 n), .u (.i .i64 (.ofNat (e + 1)))], none => K (.t [.i n, .i (.ofNat (e + 1))])
 | _, _ => False
theorem litK_S {k : Option Int} {K : V → Prop} (h : litK k x K) : K x := by
 unfold litK at h
 split at h
 · obtain ⟨rfl, h⟩ := h; exact h
 · exact h
 · exact h.elim
def zge (F : FuncId) (k : Option Int) : SP P where
 f _ call g args m K := cond (zyw g F) (some (call g args m fun x m1 => litK k x fun x => K x m1)) none
 ok := by
  intro ro hr X call hX hcall g args m KS p hs hp D ρ chs C h vs xx M ha
  cases hg : zyw g F with
  | false => rw [hg] at hs; cases hs
  | true =>
    rw [hg] at hs
    cases hs
    refine (hcall xx hp M ha).mono ?_
    rintro v h' ⟨D', ρ', m', chs', x, n, M', hv, hk⟩
    exact ⟨D', ρ', m', chs', x, n, M', hv, litK_S hk⟩
end
def DelP (g : Nat) (s : List (List U)) (j : Int) (Q : V → Mem → Prop) : Prop := PRun Tryz.prog 350 [.w 3 1 s, .c [.i j]] [.w 0, .f g [] [.r 1 0]] (post [.I] [.row 3 1, .c [.i .i64]] (fun x1 l1 x2 => (bif x1 == -1 then Q (.w 0) [.w 3 1 l1, .c [.i x2]] else ∃ (I1 : Int → Int → List (List U) → Int → Prop) (f1 : Int → Int → List (List U) → Int → Nat), I1 x1 (zyu .i64 (x1 + 1)) l1 x2 ∧ (∀ x3 : Int, ∀ x4 : Int, ∀ l2 : List (List U), ∀ x5 : Int, I1 x3 x4 l2 x5 → (bif decide (x4 < (zyv l2 : Int)) then 0 ≤ x4 ∧ x4 < (zyv l2 : Int) ∧ (elL l2 x4 (fun r1 => dI .i64 (ug r1 0) (fun x6 => PRun Tryz.prog g [.c [.i x5]] [.i x6, .r 0 0] (post [.B] [.c [.i .i64]] (fun b1 x7 => (bif !b1 then 0 ≤ x3 ∧ x3 < (zyv l2 : Int) ∧ (I1 (zyu .i64 (x3 + 1)) (zyu .i64 (x4 + 1)) (zzb l2 (zyx x3) [.n x6]) x7 ∧ f1 (zyu .i64 (x3 + 1)) (zyu .i64 (x4 + 1)) (zzb l2 (zyx x3) [.n x6]) x7 < f1 x3 x4 l2 x5) else I1 x3 (zyu .i64 (x4 + 1)) l2 x7 ∧ f1 x3 (zyu .i64 (x4 + 1)) l2 x7 < f1 x3 x4 l2 x5 : Prop)))))) else 0 ≤ x3 ∧ (x3 ≤ (zyv l2 : Int) ∧ (zyv l2 : Int) ≤ (zyv l2 : Int) ∧ (bif !(zyw (zyx (zyv l2 : Int) - zyx x3) 0) then (0 : Int) ≤ x3 ∧ x3 ≤ (zyv (List.take (0 + zyx x3) l2 ++ (zzi (zyx (zyv l2 : Int) - zyx x3) ([.n 0] : List U) ++ List.drop (0 + zyx x3 + (zyx (zyv l2 : Int) - zyx x3)) l2)) : Int) ∧ (Q (.v 0 1 0 (zyx x3) false) [.w 3 1 (List.take (0 + zyx x3) l2 ++ (zzi (zyx (zyv l2 : Int) - zyx x3) ([.n 0] : List U) ++ List.drop (0 + zyx x3 + (zyx (zyv l2 : Int) - zyx x3)) l2)), .c [.i x5]]) else False)))) : Prop)))
def IdxP (g : Nat) (s : List (List U)) (j : Int) (Q : V → Mem → Prop) : Prop := ∃ (I1 : Int → Int → Prop) (f1 : Int → Int → Nat), I1 0 j ∧ (∀ x1 : Int, ∀ x2 : Int, I1 x1 x2 → (bif decide (x1 < (zyv s : Int)) then 0 ≤ x1 ∧ x1 < (zyv s : Int) ∧ (elL s x1 (fun r1 => dI .i64 (ug r1 0) (fun x3 => PRun Tryz.prog g [.c [.i x2]] [.i x3, .r 0 0] (post [.B] [.c [.i .i64]] (fun b1 x4 => (bif b1 then Q (.i x1) [.w 3 1 s, .c [.i x4]] else I1 (zyu .i64 (x1 + 1)) x4 ∧ f1 (zyu .i64 (x1 + 1)) x4 < f1 x1 x2 : Prop)))))) else Q (.i (-1)) [.w 3 1 s, .c [.i x2]]))
section
set_option maxRecDepth 100000
theorem zkh : Tryz.prog.follows .mixedOrders = true := by kernel_rfl
theorem S304b (hh : DelP 302 s j Q) : PRun Tryz.prog 304 [.w 3 1 s, .c [.i j]] [.w 0, .f 302 [] [.r 1 0]] Q :=
 zok zkh (gc := true) (H := ⟨[((304, 5, 2), ⟨[(5, .I), (6, .I)], [(0, .row 3 1), (1, .c [.i .i64])]⟩)], [], [], [350], [], true, 64, KN.no, true, SP.no⟩) (n := 2) Tryz.func304 (by kernel_rfl) (c := zf5 Tryz.f304) (by kernel_rfl) (Eq.mp (by kernel_rfl) hh)
theorem S304o (hh : DelP 370 s j Q) : PRun Tryz.prog 304 [.w 3 1 s, .c [.i j]] [.w 0, .f 370 [] [.r 1 0]] Q :=
 zok zkh (gc := true) (H := ⟨[((304, 5, 2), ⟨[(5, .I), (6, .I)], [(0, .row 3 1), (1, .c [.i .i64])]⟩)], [], [], [350], [], true, 64, KN.no, true, SP.no⟩) (n := 2) Tryz.func304 (by kernel_rfl) (c := zf5 Tryz.f304) (by kernel_rfl) (Eq.mp (by kernel_rfl) hh)
theorem S350b (hh : IdxP 302 s j Q) : PRun Tryz.prog 350 [.w 3 1 s, .c [.i j]] [.w 0, .f 302 [] [.r 1 0]] Q :=
 zad zkh Tryz.func350 (by kernel_rfl) (H := ⟨[((350, 2, 2), ⟨[(8, .I)], [(1, .c [.i .i64])]⟩)], [], [], [], [], false, 64, KN.no, false, SP.no⟩) (n := 2) (by kernel_rfl) hh
theorem S350o (hh : IdxP 370 s j Q) : PRun Tryz.prog 350 [.w 3 1 s, .c [.i j]] [.w 0, .f 370 [] [.r 1 0]] Q :=
 zad zkh Tryz.func350 (by kernel_rfl) (H := ⟨[((350, 2, 2), ⟨[(8, .I)], [(1, .c [.i .i64])]⟩)], [], [], [], [], false, 64, KN.no, false, SP.no⟩) (n := 2) (by kernel_rfl) hh
theorem S302c {x : Int} (hh : Q (.u (.b (x == j))) [.c [.i j]]) : PRun Tryz.prog 302 [.c [.i j]] [.i x, .r 0 0] Q :=
 zad zkh Tryz.func302 (by kernel_rfl) (H := ⟨[], [], [], [], [], false, 64, KN.no, false, SP.no⟩) (n := 2) (by kernel_rfl) hh
theorem S370c {x : Int} (hh : Q (.u (.b (x == j))) [.c [.i j]]) : PRun Tryz.prog 370 [.c [.i j]] [.i x, .r 0 0] Q :=
 zad zkh Tryz.func370 (by kernel_rfl) (H := ⟨[], [], [], [], [], false, 64, KN.no, false, SP.no⟩) (n := 2) (by kernel_rfl) hh
end
section
set_option maxRecDepth 100000
variable {Q : V → Mem → Prop}
def eI (x : Int) : List U := [.n x]
theorem PRun.cutR (b : Nat)
 (hh : PRun P g m0 args fun x m => ∃ E sz rows n, (x = .v b sz 0 n false ∨ x = .w b ∧ n = rows.length) ∧ n ≤ rows.length ∧ mg m b = .w E sz rows ∧ Q (.w m.length) (ms m b .x ++ [.w E sz (rows.take n)])) : PRun P g m0 args Q := by
 intro D ρ chs C h vs M F
 refine (hh D ρ chs C h vs M F).mono ?_
 rintro v h' ⟨D', s, chs', x, m', le, M', hv, E, sz, rows, n, hx, hn, hm, hq⟩
 obtain ⟨L, ch, g1, g2, g3⟩ := M'.get (b := b) (by rw [hm]; simp)
 rw [hm] at g3
 cases g3 with
 | w o hL =>
   obtain rfl : v = .slice L.a n L.c := by
    rcases hx with rfl | ⟨rfl, rfl⟩
    · obtain ⟨L', a, cap, q1, q2, q3, q4, q5, q6, q7, rfl⟩ := hv.v_inv
      rw [g1] at q1; cases q1
      rw [q3 rfl, q7 rfl rfl]
    · obtain ⟨L', q1, rfl⟩ := hv.w_inv
      rw [g1] at q1; cases q1
      rw [hL]
   have hlt := (zyz.1 g2).1
   have S := M'.front g2
   have S2 : St D' ([] :: ((chs' ++ (ch :: C)).eraseIdx b)) h' := by
    rw [z02 hlt]
    rw [z02 hlt] at S
    exact S.mid.nil
   have M1 := M'.put g1 g2 S2 (.refl D') .x
   have M2 := M1.push (L := ⟨0, L.a, n, L.c, none⟩) (ab := .w E sz (rows.take n)) (.w o.takeN (by rw [zz1]; exact (Nat.min_eq_left hn).symm))
   refine ⟨D', s ++ [⟨0, L.a, n, L.c, none⟩], _, .w m'.length, _, le, by rw [← zy8]; exact M2, .w (L := ⟨0, L.a, n, L.c, none⟩) ?_, hq⟩
   rw [← zy8, ← M'.len]
   simp
def zjt (j : Int) : List Int → Int
 | [] => -1
 | x :: l => if x = j then 0 else if zjt j l = -1 then -1 else zjt j l + 1
theorem zln (j : Int) : ∀ l : List Int, -1 ≤ zjt j l ∧ zjt j l < l.length
 | [] => by simp [zjt]
 | x :: l => by
   have := zln j l
   simp only [zjt, zzg]
   split
   · omega
   · split <;> omega
theorem zwn {j : Int} : ∀ {l : List Int} {i : Nat}, (∀ k < i, l[k]? ≠ some j) → l[i]? = some j → zjt j l = (i : Int)
 | [], i, _, h => by simp at h
 | x :: l, 0, _, h => by
   have : x = j := by simpa using h
   simp only [zjt, if_pos this]; rfl
 | x :: l, i + 1, h1, h => by
   have hx : x ≠ j := fun e => h1 0 (by omega) (by simp [e])
   have ih := zwn (l := l) (i := i) (fun k hk => by have := h1 (k + 1) (by omega); simpa using this) (by simpa using h)
   simp only [zjt, if_neg hx, ih]
   rw [if_neg (by omega)]
   omega
theorem zwk {j : Int} : ∀ {l : List Int}, (∀ x ∈ l, x ≠ j) → zjt j l = -1
 | [], _ => rfl
 | x :: l, h => by
   simp only [zjt]
   rw [if_neg (h x zzq), zwk fun y hy => h y (zzo _ hy), if_pos rfl]
theorem zwl {j : Int} : ∀ {l : List Int}, zjt j l = -1 → ∀ x ∈ l, x ≠ j
 | [], _, x, hx => by simp at hx
 | y :: l, h, x, hx => by
   simp only [zjt] at h
   have := (zln j l).1
   split at h
   · omega
   · rename_i hy
     split at h
     · rename_i hl
       rcases zy3.1 hx with rfl | hx
       · exact hy
       · exact zwl hl x hx
     · omega
theorem zwm {j : Int} : ∀ {l : List Int} {k : Nat} {x : Int}, (k : Int) < zjt j l → l[k]? = some x → x ≠ j
 | [], k, x, _, h => by simp at h
 | y :: l, k, x, hk, h => by
   simp only [zjt] at hk
   split at hk
   · omega
   · rename_i hy
     split at hk
     · omega
     · match k, h with
       | 0, h => simp at h; subst h; exact hy
       | k + 1, h => exact zwm (l := l) (k := k) (by omega) (by simpa using h)
theorem zj2 {i : Nat} (h : ∀ k x, k < i → l[k]? = some x → x ≠ j) : (l.take i).filter (· != j) = l.take i := z16.2 fun x hx => by
 obtain ⟨k, hk⟩ := zz4.1 hx
 rw [z0l] at hk
 split at hk
 · rename_i hlt; simpa using h k x hlt hk
 · cases hk
theorem post_iR {F : Int → List (List U) → Int → Prop} {x : Int} {r : List (List U)} : post [.I] [.row 3 1, .c [.i .i64]] F (.i x) [.w 3 1 r, .c [.i j]] = F x r j := by kernel_rfl
theorem zwd {F : Bool → Int → Prop} {b : Bool} : post [.B] [.c [.i .i64]] F (.u (.b b)) [.c [.i j]] = F b j := rfl
theorem del_P {g : Nat} (hl : l.length ≤ 1000) (hg : ∀ {x : Int} {Q : V → Mem → Prop}, Q (.u (.b (x == j))) [.c [.i j]] → PRun Tryz.prog g [.c [.i j]] [.i x, .r 0 0] Q)
 (hi : ∀ {Q : V → Mem → Prop}, Q (.i (zjt j l)) [.w 3 1 (l.map eI), .c [.i j]] → PRun Tryz.prog 350 [.w 3 1 (l.map eI), .c [.i j]] [.w 0, .f g [] [.r 1 0]] Q)
 (k : Q (.w 2) [.x, .c [.i j], .w 3 1 ((l.filter (· != j)).map eI)]) :
 DelP g (l.map eI) j fun x m => ∃ E sz rows n, (x = .v 0 sz 0 n false ∨ x = .w 0 ∧ n = rows.length) ∧ n ≤ rows.length ∧ mg m 0 = .w E sz rows ∧ Q (.w m.length) (ms m 0 .x ++ [.w E sz (rows.take n)]) := by
 have hb := zln j l
 refine hi ?_
 rw [post_iR]
 refine cEq (fun h => ?_) fun h => ?_
 · have e : l.filter (· != j) = l := z16.2 fun x hx => by simpa using zwl h x hx
   rw [e] at k
   refine ⟨_, _, l.map eI, _, .inr ⟨rfl, rfl⟩, zy9 _, rfl, ?_⟩
   rw [z0r]
   exact k
 · obtain ⟨p, hp⟩ := z04 (show 0 ≤ zjt j l by omega)
   have hpl : p < l.length := by omega
   rw [hp]
   have ew : ∀ n : Nat, n ≤ 1000 → zyu .i64 ((n : Int) + 1) = ((n + 1 : Nat) : Int) := fun n hn => w64n (by omega)
   rw [ew p (by omega)]
   have h0 : (l.take (p + 1)).filter (· != j) = l.take p := by
    have h1 : (l.take p).filter (· != j) = l.take p := zj2 fun k x hk hx => zwm (by omega) hx
    obtain ⟨y, hy⟩ : ∃ y, l[p]? = some y := ⟨_, zy0 hpl⟩
    have hyj : y = j := by
     apply Decidable.byContradiction
     intro hne
     have : zjt j l ≠ (p : Int) := fun e => by
      have key : ∀ {l : List Int} {p : Nat} {y : Int}, zjt j l = (p : Int) → l[p]? = some y → y = j := by
       intro l
       induction l with
       | nil => intro p y _ h; simp at h
       | cons z l ih =>
         intro p y he h
         simp only [zjt] at he
         split at he
         · have : p = 0 := by omega
           subst this
           rename_i hz
           simp at h; rw [← h, hz]
         · split at he
           · omega
           · obtain ⟨q, rfl⟩ : ∃ q, p = q + 1 := ⟨p - 1, by have := (zln j l).1; omega⟩
             exact ih (p := q) (by omega) (by simpa using h)
      exact hne (key e hy)
     exact this hp
    rw [z05, hy, z2i, h1]
    simp [hyj]
   refine ⟨fun x3 x4 l2 x5 => ∃ (a b : Nat) (cur : List Int), x3 = (a : Int) ∧ x4 = (b : Int) ∧ l2 = cur.map eI ∧ j = x5 ∧ a < b ∧ b ≤ l.length ∧ cur.length = l.length ∧ cur.take a = (l.take b).filter (· != j) ∧ cur.drop b = l.drop b, fun _ x4 _ _ => (l.length - x4).toNat,
    ⟨p, p + 1, l, rfl, rfl, rfl, rfl, by omega, by omega, rfl, h0.symm, rfl⟩, ?_⟩
   rintro _ _ _ _ ⟨a, b, cur, rfl, rfl, rfl, rfl, hab, hbl, hcl, ht, hd⟩
   have hlen : ((cur.map eI).length : Int) = (l.length : Int) := by rw [zy2, hcl]
   rw [hlen]
   refine cIf (fun hlt => ?_) fun hge => ?_
   · have hb2 : b < l.length := by omega
     obtain ⟨y, hy⟩ : ∃ y, l[b]? = some y := ⟨_, zy0 hb2⟩
     have hcy : cur[b]? = some y := by
      have e1 : (cur.drop b)[0]? = (l.drop b)[0]? := by rw [hd]
      simpa [hy] using e1
     refine ⟨by omega, hlt, ?_⟩
     rw [zah (r := eI y) (by omega) (by rw [zzm, zy5, hcy]; rfl)]
     simp only [eI, ug0, zbs]
     refine hg ?_
     rw [zwd, ew b (by omega)]
     have et : l.take (b + 1) = l.take b ++ [y] := by rw [z05, hy]; rfl
     have ed : ∀ {c : List Int}, c.drop b = l.drop b → c.drop (b + 1) = l.drop (b + 1) := fun {c} h => by rw [← z08, h, z08]
     refine zhp (cB (fun h => ?_) fun h => ?_)
     · have hyj : y = j := by simpa using h
       refine ⟨⟨a, b + 1, cur, rfl, rfl, rfl, rfl, by omega, by omega, hcl, ?_, ed hd⟩, by first | omega | (dsimp only; omega)⟩
       rw [et, z2i, ht]
       simp [hyj]
     · have hyj : y ≠ j := by simpa using h
       rw [ew a (by omega)]
       refine ⟨by omega, by omega, ⟨a + 1, b + 1, cur.set a y, rfl, rfl, ?_, rfl, by omega, by omega, by rw [zzz]; exact hcl, ?_, ?_⟩, by first | omega | (dsimp only; omega)⟩
       · rw [zzm, z1b]; rfl
       · rw [z05, zz3 (by omega), List.take_set_of_le (zy9 _), ht, et, z2i]
         simp [hyj]
       · rw [List.drop_set_of_lt (by omega)]
         exact ed hd
   · have : b = l.length := by omega
     subst this
     rw [z0r] at ht
     have hla : (l.filter (· != j)).length = a := by rw [← ht, zz1]; omega
     simp only [zzm, zze]
     have e1 : a + (l.length - a) = l.length := by omega
     have e2 : List.drop l.length (cur.map eI) = [] := z3g.2 (by simp [hcl])
     refine ⟨by omega, by omega, by omega, ?_⟩
     have hne : zyw (l.length - a) 0 = false := by
      cases e : zyw (l.length - a) 0 with
      | false => rfl
      | true => have := zy1 e; omega
     rw [hne, e1, e2]
     refine zhp ⟨by omega, ?_, _, _, _, a, .inl rfl, ?_, rfl, ?_⟩
     · simp only [zzl, zz1, zy2, List.length_replicate, zzw, hcl]; omega
     · simp only [zzl, zz1, zy2, List.length_replicate, zzw, hcl]; omega
     · have e3 : List.take a (List.take a (cur.map eI) ++ (zzi (l.length - a) ([.n 0] : List U) ++ [])) = (l.filter (· != j)).map eI := by
        rw [z2j (by rw [zz1, zy2]; omega), List.take_take, Nat.min_self, ← z03, ht]
       rw [e3]
       exact k
theorem idx_P {g : Nat} (hl : l.length ≤ 1000) (hg : ∀ {x : Int} {Q : V → Mem → Prop}, Q (.u (.b (x == j))) [.c [.i j]] → PRun Tryz.prog g [.c [.i j]] [.i x, .r 0 0] Q) (k : Q (.i (zjt j l)) [.w 3 1 (l.map eI), .c [.i j]]) : IdxP g (l.map eI) j Q := by
 have hlen : ((l.map eI).length : Int) = (l.length : Int) := by rw [zy2]
 unfold IdxP
 rw [hlen]
 refine ⟨fun x y => ∃ i : Nat, x = (i : Int) ∧ j = y ∧ i ≤ l.length ∧ ∀ m < i, l[m]? ≠ some j, fun x _ => (l.length - x).toNat, ⟨0, rfl, rfl, zzv _, fun m h => by omega⟩, ?_⟩
 rintro _ _ ⟨i, rfl, rfl, hi, hn⟩
 refine cIf (fun hlt => ?_) fun hge => ?_
 · obtain ⟨y, hy⟩ : ∃ y, l[i]? = some y := ⟨_, zy0 (by omega)⟩
   refine ⟨by omega, hlt, ?_⟩
   rw [zah (r := eI y) (by omega) (by rw [zzm, zy5, hy]; rfl)]
   simp only [eI, ug0, zbs]
   refine hg ?_
   rw [zwd, w64n (by omega)]
   refine cB (fun h => ?_) fun h => ?_
   · obtain rfl : y = j := by simpa using h
     rw [zwn hn hy] at k
     exact k
   · have hyj : y ≠ j := by simpa using h
     refine ⟨⟨i + 1, rfl, rfl, by omega, fun m hm => ?_⟩, by first | omega | (dsimp only; omega)⟩
     rcases Nat.lt_succ_iff_lt_or_eq.1 hm with h | rfl
     · exact hn m h
     · rw [hy]; intro e; cases e; exact hyj rfl
 · have : i = l.length := by omega
   subst this
   rw [zwk fun x hx e => ?_] at k
   · exact k
   · obtain ⟨m, hm⟩ := zz4.1 hx
     exact hn m (zyz.1 hm).1 (by rw [hm, e])
theorem zor (hl : l.length ≤ 1000) (k : Q (.w 2) [.x, .c [.i j], .w 3 1 ((l.filter (· != j)).map eI)]) :
 PRun Tryz.prog 304 [.w 3 1 (l.map eI), .c [.i j]] [.w 0, .f 302 [] [.r 1 0]] Q :=
 PRun.cutR 0 (S304b (del_P hl (fun h => S302c h) (fun h => S350b (idx_P hl (fun h => S302c h) h)) k))
theorem delO_S (hl : l.length ≤ 1000) (k : Q (.w 2) [.x, .c [.i j], .w 3 1 ((l.filter (· != j)).map eI)]) :
 PRun Tryz.prog 304 [.w 3 1 (l.map eI), .c [.i j]] [.w 0, .f 370 [] [.r 1 0]] Q :=
 PRun.cutR 0 (S304o (del_P hl (fun h => S370c h) (fun h => S350o (idx_P hl (fun h => S370c h) h)) k))
end
section
set_option maxRecDepth 100000
theorem mixTb5 : Tryz.prog.follows .mixedOrders = true := by kernel_rfl
theorem S303 {d : List (List U)} {g : Int} (hh : ∃ (b : Int → Prop) (c : Int → Nat), b 0 ∧ (∀ a : Int, b a → (bif decide (a < (zyv d : Int)) then elL d a (fun e => dI .i64 (ug e 0) (fun f => (bif g == f then Q (.u (.b (decide (a ≥ 0)))) [] else b (zyu .i64 (a + 1)) ∧ c (zyu .i64 (a + 1)) < c a))) else Q (.u (.b false)) []))) : PRun Tryz.prog 303 [] [.l 1 d, .i g] Q :=
 zad mixTb5 Tryz.func303 (by kernel_rfl) (H := ⟨[((349, 2, 0), ⟨[(8, .I)], []⟩)], [], [349], [], [], false, 64, KN.no, false, SP.no⟩) (n := 3) (by kernel_rfl) hh
theorem S342 {f : List (List U)} {e : Int} (hh : ∃ (d : Int → Int → Prop) (c : Int → Int → Nat), d 0 (zyv f : Int) ∧ (∀ a b : Int, d a b → (bif decide (a < b) then 0 ≤ (1 : Int) ∧ (elL f (zyu .i64 (Int.fdiv (zyu .u64 (zyu .i64 (a + b))) (2 ^ (1)))) (fun i => dI .i64 (ug i 0) (fun g => (bif g != g then (bif !(e != e) then d (zyu .i64 (zyu .i64 (Int.fdiv (zyu .u64 (zyu .i64 (a + b))) (2 ^ (1))) + 1)) b ∧ c (zyu .i64 (zyu .i64 (Int.fdiv (zyu .u64 (zyu .i64 (a + b))) (2 ^ (1))) + 1)) b < c a b else (bif decide (g < e) then d (zyu .i64 (zyu .i64 (Int.fdiv (zyu .u64 (zyu .i64 (a + b))) (2 ^ (1))) + 1)) b ∧ c (zyu .i64 (zyu .i64 (Int.fdiv (zyu .u64 (zyu .i64 (a + b))) (2 ^ (1))) + 1)) b < c a b else d a (zyu .i64 (Int.fdiv (zyu .u64 (zyu .i64 (a + b))) (2 ^ (1)))) ∧ c a (zyu .i64 (Int.fdiv (zyu .u64 (zyu .i64 (a + b))) (2 ^ (1)))) < c a b)) else (bif decide (g < e) then d (zyu .i64 (zyu .i64 (Int.fdiv (zyu .u64 (zyu .i64 (a + b))) (2 ^ (1))) + 1)) b ∧ c (zyu .i64 (zyu .i64 (Int.fdiv (zyu .u64 (zyu .i64 (a + b))) (2 ^ (1))) + 1)) b < c a b else d a (zyu .i64 (Int.fdiv (zyu .u64 (zyu .i64 (a + b))) (2 ^ (1)))) ∧ c a (zyu .i64 (Int.fdiv (zyu .u64 (zyu .i64 (a + b))) (2 ^ (1)))) < c a b))))) else (bif decide (a < (zyv f : Int)) then elL f a (fun j => dI .i64 (ug j 0) (fun k => (bif k == e then Q (.t [.i a, .u (.b true)]) [] else elL f a (fun l => dI .i64 (ug l 0) (fun h => (bif h != h then Q (.t [.i a, .u (.b (e != e))]) [] else Q (.t [.i a, .u (.b false)]) [])))))) else Q (.t [.i a, .u (.b false)]) [])))) : PRun Tryz.prog 342 [] [.l 1 f, .i e] Q :=
 zad mixTb5 Tryz.func342 (by kernel_rfl) (H := ⟨[((342, 3, 0), ⟨[(7, .I), (8, .I)], []⟩)], [], [276, 310, 372], [], [], false, 64, KN.no, false, SP.no⟩) (n := 4) (by kernel_rfl) hh
end
section
set_option maxRecDepth 1000000
variable {Q : V → Mem → Prop}
abbrev iT : Nat := 3
def lbI (t : Int) : List Int → Nat
 | [] => 0
 | x :: l => if x < t then lbI t l + 1 else 0
theorem ze7 (t : Int) : ∀ l : List Int, lbI t l ≤ l.length
 | [] => zy9 _
 | x :: l => by
   have := ze7 t l
   simp only [lbI]
   split
   · simp only [zzg]; omega
   · omega
theorem lbI_eq {t : Int} : ∀ {l : List Int} {p : Nat}, p ≤ l.length → (∀ (i : Nat) (x : Int), i < p → l[i]? = some x → x < t) → (∀ (i : Nat) (x : Int), p ≤ i → l[i]? = some x → ¬ x < t) → lbI t l = p
 | [], p, h, _, _ => by simp at h; rw [h]; rfl
 | x :: l, 0, _, _, h2 => by
   simp only [lbI]
   rw [if_neg (h2 0 x (zy9 _) rfl)]
 | x :: l, p + 1, h, h1, h2 => by
   simp only [lbI]
   rw [if_pos (h1 0 x (by omega) rfl), lbI_eq (p := p) (by simpa using h) (fun i y hi hy => h1 (i + 1) y (by omega) (by simpa using hy)) fun i y hi hy => h2 (i + 1) y (by omega) (by simpa using hy)]
def zi1 (t : Int) (l : List Int) : List Int := l.take (lbI t l) ++ t :: l.drop (lbI t l)
theorem bins_S {t : Int} (hs : l.Pairwise (· < ·)) (hl : l.length ≤ 1000) (k : ∀ b, Q (.t [.i (lbI t l : Nat), .u (.b b)]) []) : PRun Tryz.prog 342 [] [.l 1 (l.map eI), .i t] Q := by
 have hlen : ((l.map eI).length : Int) = (l.length : Int) := by rw [zy2]
 have hP := z1t.1 hs
 refine S342 ⟨fun x y => ∃ a b : Nat, x = (a : Int) ∧ y = (b : Int) ∧ a ≤ b ∧ b ≤ l.length ∧ (∀ (i : Nat) (r : Int), i < a → l[i]? = some r → r < t) ∧ (∀ (i : Nat) (r : Int), b ≤ i → l[i]? = some r → ¬ r < t), fun x y => (y - x).toNat, ⟨0, l.length, rfl, hlen, zzv _, zy9 _, fun i r h => by omega, fun i r h hr => by rw [z0m h] at hr; cases hr⟩, ?_⟩
 rintro _ _ ⟨a, b, rfl, rfl, hab, hbl, h1, h2⟩
 refine cIf (fun h => ?_) fun h => ?_
 · have hlt : a < b := by omega
   have e1 : zyu .i64 ((a : Int) + b) = (a : Int) + b := w64 (by omega) (by omega)
   have e2 : zyu .u64 ((a : Int) + b) = (a : Int) + b := by rw [z2v]; omega
   have e3 : Int.fdiv ((a : Int) + b) (2 ^ 1) = (((a + b) / 2 : Nat) : Int) := by
    rw [← Int.natCast_add]
    show Int.fdiv ((a + b : Nat) : Int) 2 = _
    rw [z23 _ (by omega)]
    omega
   have e4 : zyu .i64 (((a + b) / 2 : Nat) : Int) = (((a + b) / 2 : Nat) : Int) := w64 (by omega) (by omega)
   rw [e1, e2, show ((2 : Int) ^ (1 : Nat)) = 2 ^ 1 from rfl, e3, e4]
   have hm : (a + b) / 2 < l.length := by omega
   have hg := zy0 hm
   refine ⟨by omega, ?_⟩
   rw [zah (r := eI (l[(a + b) / 2])) (by omega) (by rw [zzm, zy5, hg]; rfl)]
   simp only [eI, ug0, zbs]
   have e5 : zyu .i64 ((((a + b) / 2 : Nat) : Int) + 1) = (((a + b) / 2 + 1 : Nat) : Int) := by rw [w64 (by omega) (by omega)]; omega
   rw [e5]
   refine cNe (fun h => absurd rfl h) fun _ => cIf (fun hc => ?_) fun hc => ?_
   · refine ⟨⟨_, b, rfl, rfl, by omega, hbl, fun i r hi hr => ?_, h2⟩, by omega⟩
     rcases z0o i ((a + b) / 2) with h3 | h3
     · obtain ⟨hil, rfl⟩ := zyz.1 hr
       have := hP i ((a + b) / 2) hil hm h3
       omega
     · have : i = (a + b) / 2 := by omega
       subst this
       rw [hg] at hr; cases hr; exact hc
   · refine ⟨⟨a, _, rfl, rfl, by omega, by omega, h1, fun i r hi hr => ?_⟩, by omega⟩
     rcases Nat.eq_or_lt_of_le hi with h3 | h3
     · subst h3
       rw [hg] at hr; cases hr; exact hc
     · obtain ⟨hil, rfl⟩ := zyz.1 hr
       have := hP ((a + b) / 2) i hm hil h3
       omega
 · have : a = b := by omega
   subst this
   have e := lbI_eq hbl h1 h2
   simp only [e] at k
   rw [hlen]
   refine cIf (fun hlt => ?_) fun hge => ?_
   · have hg := zy0 (show a < l.length by omega)
     have el : ∀ {F : List U → Prop}, elL (l.map eI) (a : Int) F = F (eI l[a]) := fun {F} => zah (by omega) (by rw [zzm, zy5, hg]; rfl)
     simp only [el, eI, ug0, zbs]
     refine cEq (fun _ => k true) fun _ => cNe (fun h => absurd rfl h) fun _ => k false
   · exact k false
theorem cont_S {t : Int} (hl : l.length ≤ 1000) (k : Q (.u (.b (l.contains t))) []) : PRun Tryz.prog 303 [] [.l 1 (l.map eI), .i t] Q := by
 have hlen : ((l.map eI).length : Int) = (l.length : Int) := by rw [zy2]
 refine S303 ⟨fun x => ∃ i : Nat, x = (i : Int) ∧ i ≤ l.length ∧ l.contains t = (l.drop i).contains t, fun x => (l.length - x).toNat, ⟨0, rfl, zzv _, rfl⟩, ?_⟩
 rintro _ ⟨i, rfl, hi, he⟩
 rw [hlen]
 refine cIf (fun hlt => ?_) fun hge => ?_
 · have hlt' : i < l.length := by omega
   have hg := zy0 hlt'
   rw [zah (r := eI l[i]) (by omega) (by rw [zzm, zy5, hg]; rfl)]
   simp only [eI, ug0, zbs]
   rw [z1e hlt', List.contains_cons] at he
   have e5 : zyu .i64 ((i : Int) + 1) = ((i + 1 : Nat) : Int) := by rw [w64 (by omega) (by omega)]; omega
   rw [e5]
   refine cEq (fun hh => ?_) fun hh => ⟨⟨i + 1, rfl, by omega, ?_⟩, by omega⟩
   · rw [he] at k
     rw [hh, beq_self_eq_true, Bool.true_or] at k
     rw [decide_eq_true (show (i : Int) ≥ 0 by omega)]
     exact k
   · rw [he, beq_eq_false_iff_ne.2 hh, Bool.false_or]
 · have : i = l.length := by omega
   subst this
   rw [List.drop_length] at he
   rw [he] at k
   exact k
theorem zii : ∀ l : List Int, zij (l.map eI) = true
 | [] => rfl
 | x :: l => by simp only [zzj, zij, zyy]; exact ⟨rfl, zii l⟩
theorem zme {t : Int} (hl : l.length ≤ 1000) (k : Q (.u (.b (l.contains t))) [.w iT 1 (l.map eI)]) : PRun Tryz.prog 303 [.w iT 1 (l.map eI)] [.w 0, .i t] Q :=
 PRun.lend rfl (cont_S hl ⟨rfl, rfl, k⟩)
theorem zei {t : Int} (hs : l.Pairwise (· < ·)) (hl : l.length ≤ 1000) (k : ∀ b, Q (.t [.i (lbI t l : Nat), .u (.b b)]) [.w iT 1 (l.map eI)]) : PRun Tryz.prog 342 [.w iT 1 (l.map eI)] [.w 0, .i t] Q :=
 PRun.lend rfl (bins_S hs hl fun b => ⟨rfl, rfl, k b⟩)
theorem PRun.own0 {E sz : Nat} (hh : PRun P g [] args fun x m' => Q x m' ∨ (m' = [] ∧ (x = .c sz [] ∨ x = .nl sz) ∧ Q (.w 0) [.w E sz []])) : PRun P g [] args Q := by
 intro D ρ chs C h vs M F
 refine (hh D ρ chs C h vs M F).mono ?_
 rintro v h' ⟨D', s, chs', x, m', le, M', hv, hq⟩
 rcases hq with hq | ⟨rfl, hx, hq⟩
 · exact ⟨D', s, chs', x, m', le, M', hv, hq⟩
 have key : ∃ a, v = .slice a 0 0 := by
  rcases hx with rfl | rfl
  · cases hv with
    | c hr =>
      obtain ⟨a', c', e, -⟩ := hr.shape
      injection e with e1 e2 e3
      have : _ = 0 := e2
      subst this
      exact ⟨_, rfl⟩
  · cases hv; exact ⟨_, rfl⟩
 obtain ⟨a, rfl⟩ := key
 refine ⟨D', s ++ [⟨0, a, 0, 0, none⟩], chs' ++ [[]], _, _, le, ?_, ?_, hq⟩
 · have hl := M'.len
   have hc := M'.lch
   simp at hl hc
   obtain ⟨rfl, rfl⟩ := hl
   subst hc
   exact ⟨rfl, rfl, fun i L ab ch h1 h2 h3 => by
    cases i with
    | succ i => simp at h2
    | zero => simp at h1 h2 h3; subst h1 h2 h3; exact .w (.nil _) rfl, M'.st.perm (by simp)⟩
 · have hl := M'.len
   simp at hl
   obtain ⟨rfl, rfl⟩ := hl
   exact .w (L := ⟨0, a, 0, 0, none⟩) rfl
end
section
set_option maxRecDepth 1000000
variable {Q : V → Mem → Prop}
theorem mixHc : Tryz.prog.follows .mixedOrders = true := by kernel_rfl
def cloneP (s : List (List U)) (Q : V → Mem → Prop) : Prop :=
 bif List.isEmpty s then ((Q (.nl 1) [] : Prop) ∧ (zan [] s ∧ (match s with | _ :: _ => (Q (.w 0) [.w 3 1 ([] ++ s)]) | [] => (Q (.c 1 []) []) : Prop) : Prop)) else (zan [] s ∧ (match s with | _ :: _ => (Q (.w 0) [.w 3 1 ([] ++ s)]) | [] => (Q (.c 1 []) []) : Prop) : Prop)
theorem clone0_S (hh : cloneP s Q) : PRun Tryz.prog 165 [] [.l 1 s] Q := by
 have hV : cloneP s Q = runS Tryz.prog ⟨[], [], [], [], [], true, 64, KN.no, false, SP.no⟩ 2 .out 165 [] [] (zf5 Tryz.f165) (retG Tryz.prog true Tryz.f165 (endS true ([] : Mem).length Q)) (zf1 Tryz.prog true Tryz.f165 [.l 1 s]) [] := by kernel_rfl
 exact zok mixHc (gc := true) (H := ⟨[], [], [], [], [], true, 64, KN.no, false, SP.no⟩) (n := 2) Tryz.func165 (by kernel_rfl) (c := zf5 Tryz.f165) (by kernel_rfl) (hV ▸ hh)
theorem zey (hl : l.length ≤ 1000) (k : Q (.w 0) [.w iT 1 (l.map eI)]) : PRun Tryz.prog 165 [] [.l 1 (l.map eI)] Q := by
 refine PRun.own0 (E := iT) (sz := 1) (clone0_S ?_)
 have ap : zan [] (l.map eI) := by unfold zan; simp; omega
 cases l with
 | nil => exact ⟨.inr ⟨rfl, .inr rfl, k⟩, ap, .inr ⟨rfl, .inl rfl, k⟩⟩
 | cons x l => exact ⟨ap, .inl k⟩
theorem PRun.frzR (b : Nat) (hh : PRun P g m0 args fun x m => ∃ E sz rows, x = .w b ∧ mg m b = .w E sz rows ∧ Q (.l sz rows) (ms m b .x)) : PRun P g m0 args Q := by
 intro D ρ chs C h vs M F
 refine (hh D ρ chs C h vs M F).mono ?_
 rintro v h' ⟨D', s, chs', x, m', le, M', hv, E, sz, rows, rfl, hm, hq⟩
 obtain ⟨L, ch, g1, g2, g3⟩ := M'.get (b := b) (by rw [hm]; simp)
 rw [hm] at g3
 cases g3 with
 | w o hn =>
   obtain ⟨D2, le2, S2, hR⟩ := o.freeze (M'.front g2)
   rw [← hn] at hR
   obtain ⟨L', hL, rfl⟩ := hv.w_inv
   rw [g1] at hL
   cases hL
   exact ⟨D2, s, _, .l sz rows, _, le.trans le2, M'.put g1 g2 S2.nil le2 .x, .u hR, hq⟩
theorem zc7 (hl : l.length ≤ 1000) (k : Q (.l 1 (l.map eI)) [.w iT 1 (l.map eI)]) : PRun Tryz.prog 165 [.w iT 1 (l.map eI)] [.w 0] Q := by
 refine PRun.trim (PRun.frzR 1 (PRun.lend rfl (zey hl ⟨rfl, by simp [plM, plA, zii], _, _, _, rfl, rfl, k⟩)))
end
section
set_option maxRecDepth 100000
theorem mixTp : Tryz.prog.follows .mixedOrders = true := by kernel_rfl
theorem S310 {a : Int} (hh : Q (.u (.b (a != a))) []) : PRun Tryz.prog 310 [] [.i a] Q :=
 zad mixTp Tryz.func310 (by kernel_rfl) (H := ⟨[], [], [], [], [], false, 64, KN.no, false, SP.no⟩) (n := 2) (by kernel_rfl) hh
theorem S225 {a b : Int} (hh : PRun Tryz.prog 310 [] [.i a] (post [.B] [] (fun d => (PRun Tryz.prog 310 [] [.i b] (post [.B] [] (fun c => (bif d then (bif c then Q (.i 0) [] else Q (.i (-1)) []) else (bif c then Q (.i 1) [] else (bif decide (a < b) then Q (.i (-1)) [] else (bif decide (a > b) then Q (.i 1) [] else Q (.i 0) []))) : Prop))) : Prop)))) : PRun Tryz.prog 225 [] [.i a, .i b] Q :=
 zad mixTp Tryz.func225 (by kernel_rfl) (H := ⟨[], [], [], [], [], false, 64, KN.no, false, SP.no⟩) (n := 2) (by kernel_rfl) hh
theorem S279 {a b c d e f g h : Int} (hh : bif eqI [a, b, c, d] [e, f, g, h] then Q (.i 0) [] else PRun Tryz.prog 225 [] [.i a, .i e] (post q7 [] (fun i => (bif i != 0 then Q (.i i) [] else PRun Tryz.prog 225 [] [.i b, .i f] (post q7 [] (fun j => (bif j != 0 then Q (.i j) [] else PRun Tryz.prog 225 [] [.i c, .i g] (post q7 [] (fun k => (bif k != 0 then Q (.i k) [] else PRun Tryz.prog 225 [] [.i d, .i h] (post q7 [] (fun l => (bif l != 0 then Q (.i l) [] else Q (.i 0) [] : Prop))) : Prop))) : Prop))) : Prop)))) : PRun Tryz.prog 279 [] [(q16 a b c d), q16 e f g h] Q :=
 zad mixTp Tryz.func279 (by kernel_rfl) (H := ⟨[], [], [], [], [], false, 64, KN.no, false, SP.no⟩) (n := 2) (by kernel_rfl) hh
theorem S277 {g : List (List U)} {h i k : Int} (hh : ∃ (e : Int → Int → Prop) (f : Int → Int → Nat), e 0 (zyv g : Int) ∧ (∀ a b : Int, e a b → (bif decide (a < b) then 0 ≤ (1 : Int) ∧ (elL g (zyu .i64 (Int.fdiv (zyu .u64 (zyu .i64 (a + b))) (2 ^ (1)))) (fun c => dI .i64 (ug c 0) (fun l => dI .i64 (ug c 1) (fun m => dI .i64 (ug c 2) (fun n => dI .i64 (ug c 3) (fun o => dI .i64 (ug c 4) (fun v => PRun Tryz.prog 279 [] [(q16 l m n o), q16 h i j k] (post q7 [] (fun p => (bif decide (p < 0) then e (zyu .i64 (zyu .i64 (Int.fdiv (zyu .u64 (zyu .i64 (a + b))) (2 ^ (1))) + 1)) b ∧ f (zyu .i64 (zyu .i64 (Int.fdiv (zyu .u64 (zyu .i64 (a + b))) (2 ^ (1))) + 1)) b < f a b else e a (zyu .i64 (Int.fdiv (zyu .u64 (zyu .i64 (a + b))) (2 ^ (1)))) ∧ f a (zyu .i64 (Int.fdiv (zyu .u64 (zyu .i64 (a + b))) (2 ^ (1)))) < f a b : Prop)))))))))) else (bif decide (a < (zyv g : Int)) then elL g a (fun d => dI .i64 (ug d 0) (fun q => dI .i64 (ug d 1) (fun r => dI .i64 (ug d 2) (fun s => dI .i64 (ug d 3) (fun t => dI .i64 (ug d 4) (fun w => PRun Tryz.prog 279 [] [(q16 q r s t), q16 h i j k] (post q7 [] (fun u => (Q (.t [.i a, .u (.b (u == 0))]) [] : Prop))))))))) else Q (.t [.i a, .u (.b false)]) [])))) : PRun Tryz.prog 277 [] [.l 5 g, q16 h i j k, .f 278 [] []] Q :=
 zad mixTp Tryz.func277 (by kernel_rfl) (H := ⟨[((277, 3, 1), ⟨[(9, .I), (10, .I)], []⟩)], [], [278], [], [], false, 64, KN.no, false, SP.no⟩) (n := 3) (by kernel_rfl) hh
end
section
variable {Q : V → Mem → Prop}
theorem zxm {x : Int} (k : Q (.u (.b false)) []) : PRun Tryz.prog 310 [] [.i x] Q := S310 (by simpa using k)
theorem zou {x y : Int} (k : Q (.i (if x < y then -1 else if y < x then 1 else 0)) []) : PRun Tryz.prog 225 [] [.i x, .i y] Q := by
 refine S225 (zxm ?_)
 rw [zb7]
 refine zxm ?_
 rw [zb7]
 refine cIf (fun h => by rwa [if_pos h] at k) fun h => cIf (fun h2 => ?_) fun h2 => ?_
 · rw [if_neg h, if_pos (show y < x from h2)] at k; exact k
 · rw [if_neg h, if_neg (show ¬ y < x from h2)] at k; exact k
abbrev kV (k : K4) : V := .a [.i k.a, .i k.b, .i k.c, .i k.d]
def cmpK (x y : K4) : Int := if x = y then 0 else if x.lt y then -1 else 1
theorem zsw {x y : K4} (k : Q (.i (cmpK x y)) []) : PRun Tryz.prog 279 [] [kV x, kV y] Q := by
 refine S279 ?_
 rw [zqq]
 refine cIf (fun h => ?_) fun h => ?_
 · simp only [List.cons.injEq, and_true] at h
   have : x = y := K4.ext' h.1 h.2.1 h.2.2.1 h.2.2.2
   unfold cmpK at k
   rwa [if_pos this] at k
 have hne : x ≠ y := fun e => h (by rw [e])
 unfold cmpK at k
 rw [if_neg hne] at k
 have step : ∀ {a b : Int} {K : Prop}, (a < b → Q (.i (-1)) []) → (b < a → Q (.i 1) []) → (a = b → K) → PRun Tryz.prog 225 [] [.i a, .i b] (post [.I] [] (fun x1 => (bif x1 != 0 then Q (.i x1) [] else K : Prop))) := fun {a b K} h1 h2 h3 => by
  refine zou ?_
  rw [zaw]
  by_cases hab : a < b
  · rw [if_pos hab]; exact h1 hab
  · by_cases hba : b < a
    · rw [if_neg hab, if_pos hba]; exact h2 hba
    · rw [if_neg hab, if_neg hba]; exact h3 (by omega)
 have lt : x.lt y → Q (.i (-1)) [] := fun h => by rwa [if_pos h] at k
 have gt : y.lt x → Q (.i 1) [] := fun h => by rwa [if_neg (K4.asym h)] at k
 refine step (fun h => lt (.inl h)) (fun h => gt (.inl h)) fun e1 => ?_
 refine step (fun h => lt (.inr ⟨e1, .inl h⟩)) (fun h => gt (.inr ⟨e1.symm, .inl h⟩)) fun e2 => ?_
 refine step (fun h => lt (.inr ⟨e1, .inr ⟨e2, .inl h⟩⟩)) (fun h => gt (.inr ⟨e1.symm, .inr ⟨e2.symm, .inl h⟩⟩)) fun e3 => ?_
 refine step (fun h => lt (.inr ⟨e1, .inr ⟨e2, .inr ⟨e3, h⟩⟩⟩)) (fun h => gt (.inr ⟨e1.symm, .inr ⟨e2.symm, .inr ⟨e3.symm, h⟩⟩⟩)) fun e4 => ?_
 exact absurd (K4.ext' e1 e2 e3 e4) hne
def eT (r : K4 × Int) : List U := [.n r.1.a, .n r.1.b, .n r.1.c, .n r.1.d, .n r.2]
theorem zho {x y : K4} : cmpK x y < 0 ↔ x.lt y := by
 unfold cmpK
 by_cases h : x = y
 · subst h; simp [K4.irr]
 · rw [if_neg h]
   by_cases h2 : x.lt y
   · simp [h2]
   · simp [h2]
theorem cmpK_zero {x y : K4} : cmpK x y = 0 ↔ x = y := by
 unfold cmpK
 by_cases h : x = y
 · simp [h]
 · rw [if_neg h]
   by_cases h2 : x.lt y <;> simp [h2, h]
theorem zbt {l : Tb} {k : K4} (hs : Srt l) (hl : l.length ≤ 1000000) (kk : Q (.t [.i (za4 k l : Nat), .u (.b (zau k l).isSome)]) []) : PRun Tryz.prog 277 [] [.l 5 (l.map eT), kV k, .f 278 [] []] Q := by
 have hlen : ((l.map eT).length : Int) = (l.length : Int) := by rw [zy2]
 refine S277 ⟨fun x y => ∃ a b : Nat, x = (a : Int) ∧ y = (b : Int) ∧ a ≤ b ∧ b ≤ l.length ∧ (∀ (i : Nat) (r : K4 × Int), i < a → l[i]? = some r → r.1.lt k) ∧ (∀ (i : Nat) (r : K4 × Int), b ≤ i → l[i]? = some r → ¬ r.1.lt k), fun x y => (y - x).toNat, ⟨0, l.length, rfl, hlen, zzv _, zy9 _, fun i r h => by omega, fun i r h hr => by rw [z0m h] at hr; cases hr⟩, ?_⟩
 rintro _ _ ⟨a, b, rfl, rfl, hab, hbl, h1, h2⟩
 refine cIf (fun h => ?_) fun h => ?_
 · have hlt : a < b := by omega
   have e1 : zyu .i64 ((a : Int) + b) = (a : Int) + b := w64 (by omega) (by omega)
   have e2 : zyu .u64 ((a : Int) + b) = (a : Int) + b := by rw [z2v]; omega
   have e3 : Int.fdiv ((a : Int) + b) (2 ^ 1) = (((a + b) / 2 : Nat) : Int) := by
    rw [← Int.natCast_add]
    show Int.fdiv ((a + b : Nat) : Int) 2 = _
    rw [z23 _ (by omega)]
    omega
   have e4 : zyu .i64 (((a + b) / 2 : Nat) : Int) = (((a + b) / 2 : Nat) : Int) := w64 (by omega) (by omega)
   rw [e1, e2, show ((2 : Int) ^ (1 : Nat)) = 2 ^ 1 from rfl, e3, e4]
   generalize hm : (a + b) / 2 = m
   have hm1 : a ≤ m := by omega
   have hm2 : m < b := by omega
   have hml : m < l.length := by omega
   refine ⟨by omega, ?_⟩
   rw [zah (r := eT l[m]) (by omega) (by simp [hml])]
   simp only [eT, ug0, ugs, zbs]
   refine zsw (x := l[m].1) (y := k) ?_
   rw [zaw]
   have e5 : zyu .i64 ((m : Int) + 1) = ((m + 1 : Nat) : Int) := by rw [w64 (by omega) (by omega)]; omega
   refine cIf (fun hc => ?_) fun hc => ?_
   · rw [zho] at hc
     rw [e5]
     refine ⟨⟨m + 1, b, rfl, rfl, by omega, hbl, fun i r hi hr => ?_, h2⟩, by omega⟩
     by_cases hia : i < a
     · exact h1 i r hia hr
     · have hil : i < l.length := by omega
       by_cases him : i = m
       · subst him
         rw [zy0 hml] at hr
         cases hr
         exact hc
       · have hlt2 : r.1.lt l[m].1 := by
          rw [zy0 hil] at hr
          cases hr
          exact z1t.1 hs i m hil hml (by omega)
         exact hlt2.trans hc
   · rw [zho] at hc
     refine ⟨⟨a, m, rfl, rfl, hm1, by omega, h1, fun i r hi hr => ?_⟩, by omega⟩
     have hil : i < l.length := by
      rcases z0o i l.length with q | q
      · exact q
      · rw [z0m q] at hr; cases hr
     by_cases him : i = m
     · subst him
       rw [zy0 hml] at hr
       cases hr
       exact hc
     · rw [zy0 hil] at hr
       cases hr
       exact fun h3 => hc ((z1t.1 hs m i hml hil (by omega)).trans h3)
 · have : b = a := by omega
   subst this
   have hp := tpos_eq hs hbl h1 h2
   have hg := zpo (k := k) hs
   rw [← hp] at hg kk
   rw [hlen]
   refine cIf (fun hc => ?_) fun hc => ?_
   · have hlt : b < l.length := by omega
     rw [zah (r := eT l[b]) (by omega) (by simp [hlt])]
     simp only [eT, ug0, ugs, zbs]
     refine zsw (x := l[b].1) (y := k) ?_
     rw [zaw]
     rw [zy0 hlt] at hg
     dsimp only at hg
     have : (cmpK l[b].1 k == 0) = (zau k l).isSome := by
      rw [hg]
      by_cases e : l[b].1 = k
      · rw [if_pos e]; simp [cmpK_zero.2 e]
      · rw [if_neg e]
        have : cmpK l[b].1 k ≠ 0 := fun h => e (cmpK_zero.1 h)
        simp [this]
     rw [this]
     exact kk
   · rw [z0m (by omega)] at hg
     dsimp only at hg
     rw [hg] at kk
     exact kk
end
abbrev Tm := Int × Int × Int
def leT (a b : Tm) : Prop := a.1 < b.1 ∨ (a.1 = b.1 ∧ a.2.1 ≤ b.2.1)
instance (a b : Tm) : Decidable (leT a b) := inferInstanceAs (Decidable (_ ∨ _))
theorem leT.refl (a : Tm) : leT a a := .inr ⟨rfl, zzk _⟩
theorem leT.trans {a b c : Tm} (h : leT a b) (k : leT b c) : leT a c := by unfold leT at *; omega
theorem leT.total {a b : Tm} (h : ¬ leT a b) : leT b a := by unfold leT at *; omega
theorem leT.antisymm {a b : Tm} (h : leT a b) (k : leT b a) : a.1 = b.1 ∧ a.2.1 = b.2.1 := by unfold leT at *; omega
def par (i : Nat) : Nat := (i - 1) / 2
theorem zc5 {i : Nat} (h : 0 < i) : par i < i := by unfold par; omega
def Ord (ys : List Tm) (i : Nat) : Prop := ∀ x y, ys[par i]? = some x → ys[i]? = some y → leT x y
structure HpE (ys : List Tm) (k : Nat) : Prop where
 rest : ∀ i, 0 < i → i ≠ k → par i ≠ k → Ord ys i
 skip : ∀ j, 0 < j → par j = k → 0 < k → ∀ x y, ys[par k]? = some x → ys[j]? = some y → leT x y
def UpOK (ys : List Tm) (k : Nat) : Prop := 0 < k → Ord ys k
def zkw (ys : List Tm) (k : Nat) : Prop := ∀ j, 0 < j → par j = k → Ord ys j
def IsHeap (ys : List Tm) : Prop := ∀ i, 0 < i → Ord ys i
variable {ys xs : List Tm} {t : Tm}
theorem HpE.heap (h : HpE ys k) (u : UpOK ys k) (d : zkw ys k) : IsHeap ys := fun i hi => by
 by_cases h1 : i = k
 · subst h1; exact u hi
 · by_cases h2 : par i = k
   · exact d i hi h2
   · exact h.rest i hi h1 h2
theorem IsHeap.he (h : IsHeap ys) (k : Nat) : HpE ys k where
 rest i hi _ _ := h i hi
 skip j hj hp hk x y hx hy := by
  cases hz : ys[k]? with
  | none =>
    have h1 := z24.1 hz
    have h2 := (zyz.1 hy).1
    have := zc5 hj
    omega
  | some z => exact (h k hk x z hx hz).trans (h j hj z y (by rw [hp]; exact hz) hy)
theorem HpE.set (h : HpE ys k) (t : Tm) : HpE (ys.set k t) k where
 rest i hi h1 h2 x y hx hy := by
  rw [zzp (Ne.symm h2)] at hx
  rw [zzp (Ne.symm h1)] at hy
  exact h.rest i hi h1 h2 x y hx hy
 skip j hj hp hk x y hx hy := by
  rw [zzp (by have := zc5 hk; omega)] at hx
  rw [zzp (by have := zc5 hj; omega)] at hy
  exact h.skip j hj hp hk x y hx hy
def swp (ys : List Tm) (i j : Nat) (x y : Tm) : List Tm := (ys.set i y).set j x
theorem zgc {i j : Nat} {x y : Tm} (hi : i < ys.length) (hj : j < ys.length) (hij : i ≠ j) (m : Nat) :
 (swp ys i j x y)[m]? = if m = i then some y else if m = j then some x else ys[m]? := by
 unfold swp
 by_cases h1 : m = j
 · subst h1
   rw [if_neg (Ne.symm hij), if_pos rfl, zz3 (by simpa using hj)]
 · rw [zzp (Ne.symm h1)]
   by_cases h2 : m = i
   · subst h2; rw [if_pos rfl, zz3 hi]
   · rw [if_neg h2, if_neg h1, zzp (Ne.symm h2)]
theorem zhf {i j : Nat} {x y : Tm} (hx : ys[i]? = some x) (hy : ys[j]? = some y) (hij : i ≠ j) : (swp ys i j x y).Perm ys := by
 rw [List.perm_iff_count]
 intro a
 obtain ⟨h1, h2⟩ := zyz.1 hx
 obtain ⟨h3, h4⟩ := zyz.1 hy
 unfold swp
 rw [List.count_set (by simpa using h3), List.count_set h1, List.getElem_set_ne hij, h2, h4]
 have hc : ∀ (z : Tm) (m : Nat) (hm : ys[m]? = some z), a = z → 0 < ys.count a := fun z m hm e => by
  subst e; exact List.count_pos_iff.2 (zy4 hm)
 by_cases e1 : x = a <;> by_cases e2 : y = a
 · subst e1; subst e2; have := hc _ i hx rfl; simp <;> omega
 · subst e1; have := hc _ i hx rfl; simp [e2] <;> omega
 · subst e2; have := hc _ j hy rfl; simp [e1] <;> omega
 · simp [e1, e2]
theorem HpE.up {p : Tm} (h : HpE ys k) (hk : 0 < k) (ht : ys[k]? = some t) (hp : ys[par k]? = some p) (hlt : leT t p) :
 HpE (swp ys k (par k) t p) (par k) ∧ zkw (swp ys k (par k) t p) (par k) := by
 have hpk := zc5 hk
 have hkl := (zyz.1 ht).1
 have hpl := (zyz.1 hp).1
 have g := zgc (ys := ys) (x := t) (y := p) hkl hpl (by omega : k ≠ par k)
 refine ⟨⟨fun i hi h1 h2 x y hx hy => ?_, fun j hj hpj hpk0 x y hx hy => ?_⟩, fun j hj hpj x y hx hy => ?_⟩
 · rw [g] at hx hy
   have hik : i ≠ k := fun e => h2 (by rw [e])
   rw [if_neg hik, if_neg h1] at hy
   by_cases h3 : par i = k
   · rw [if_pos h3] at hx
     cases hx
     exact h.skip i hi h3 hk _ _ hp hy
   · rw [if_neg h3, if_neg h2] at hx
     exact h.rest i hi hik h3 x y hx hy
 · have hpp := zc5 hpk0
   rw [g] at hx hy
   rw [if_neg (by omega), if_neg (by omega)] at hx
   have hap : leT x p := h.rest (par k) hpk0 (by omega) (by omega) x p hx hp
   by_cases hjk : j = k
   · rw [if_pos hjk] at hy; cases hy; exact hap
   · have hjp : j ≠ par k := by have := zc5 hj; omega
     rw [if_neg hjk, if_neg hjp] at hy
     exact hap.trans (h.rest j hj hjk (by omega) p y (by rw [hpj]; exact hp) hy)
 · rw [g] at hx hy
   rw [hpj, if_neg (by omega), if_pos rfl] at hx
   cases hx
   by_cases hjk : j = k
   · rw [if_pos hjk] at hy; cases hy; exact hlt
   · have hjp : j ≠ par k := by have := zc5 hj; omega
     rw [if_neg hjk, if_neg hjp] at hy
     exact hlt.trans (h.rest j hj hjk (by omega) p y (by rw [hpj]; exact hp) hy)
theorem HpE.down {b : Nat} {u : Tm} (h : HpE ys k) (hb0 : 0 < b) (hb : par b = k) (ht : ys[k]? = some t) (hu : ys[b]? = some u) (hlt : leT u t)
 (hsm : ∀ j w, 0 < j → par j = k → ys[j]? = some w → leT u w) : HpE (swp ys k b t u) b ∧ UpOK (swp ys k b t u) b := by
 have hbk := zc5 hb0
 have hkl := (zyz.1 ht).1
 have hbl := (zyz.1 hu).1
 have g := zgc (ys := ys) (x := t) (y := u) hkl hbl (by omega : k ≠ b)
 refine ⟨⟨fun i hi h1 h2 x y hx hy => ?_, fun j hj hpj hb1 x y hx hy => ?_⟩, fun _ x y hx hy => ?_⟩
 · rw [g] at hx hy
   have hpi := zc5 hi
   by_cases hik : i = k
   · rw [if_pos hik] at hy
     cases hy
     rw [if_neg (by omega), if_neg h2] at hx
     exact h.skip b hb0 hb (by omega) x _ (by rw [← hik]; exact hx) hu
   · rw [if_neg hik, if_neg h1] at hy
     by_cases h3 : par i = k
     · rw [if_pos h3] at hx
       cases hx
       exact hsm i y hi h3 hy
     · rw [if_neg h3, if_neg h2] at hx
       exact h.rest i hi hik h3 x y hx hy
 · rw [g] at hx hy
   rw [hb, if_pos rfl] at hx
   cases hx
   have hpj' := zc5 hj
   rw [if_neg (by omega), if_neg (by omega)] at hy
   exact h.rest j hj (by omega) (by omega) _ y (by rw [hpj]; exact hu) hy
 · rw [g] at hx hy
   rw [hb, if_pos rfl] at hx
   cases hx
   rw [if_neg (by omega), if_pos rfl] at hy
   cases hy
   exact hlt
theorem IsHeap.first (h : IsHeap ys) : ∀ (i : Nat) (x y : Tm), ys[0]? = some x → ys[i]? = some y → leT x y := by
 intro i
 induction i using Nat.strongRecOn with
 | ind i ih =>
   intro x y hx hy
   by_cases h0 : i = 0
   · subst h0; rw [hx] at hy; cases hy; exact .refl _
   · have hp := zc5 (show 0 < i by omega)
     cases hz : ys[par i]? with
     | none =>
       have h1 := z24.1 hz
       have h2 := (zyz.1 hy).1
       omega
     | some z => exact (ih (par i) hp x z hx hz).trans (h i (by omega) z y hz hy)
abbrev Ids (ys : List Tm) : Prop := (ys.map (·.2.1)).Nodup
theorem Ids.inj (h : Ids ys) {i j : Nat} {x y : Tm} (hx : ys[i]? = some x) (hy : ys[j]? = some y) (he : x.2.1 = y.2.1) : i = j := by
 obtain ⟨h1, h2⟩ := zyz.1 hx
 obtain ⟨h3, h4⟩ := zyz.1 hy
 have hp := z1t.1 h
 rcases Nat.lt_trichotomy i j with hlt | rfl | hlt
 · refine (hp i j (by simpa using h1) (by simpa using h3) hlt ?_).elim
   rw [z15, z15, h2, h4, he]
 · rfl
 · refine (hp j i (by simpa using h3) (by simpa using h1) hlt ?_).elim
   rw [z15, z15, h2, h4, he]
theorem zdv (h : ys.Perm xs) (hi : Ids xs) : Ids ys := (h.map _).nodup_iff.2 hi
theorem tdiv_par (hk : 0 < k) (hb : k ≤ 1000000) : zyu .i64 (Int.tdiv (zyu .i64 ((k : Int) - 1)) 2) = (par k : Nat) := by
 rw [w64 (x := (k : Int) - 1) (by omega) (by omega)]
 have : ((k : Int) - 1) = ((k - 1 : Nat) : Int) := by omega
 rw [this, Int.tdiv_eq_ediv_of_nonneg (by omega)]
 have h2 : (((k - 1 : Nat) : Int) / 2) = (((k - 1) / 2 : Nat) : Int) := by omega
 rw [h2, w64 (by omega) (by omega)]; rfl
theorem za5 (k : MK) (v : List U) (k' : MK) : ∀ m, zbl (za1 m k v) k' = if k = k' then some v else zbl m k'
 | [] => rfl
 | p :: m => by
   by_cases h : p.1 = k
   · simp only [za1, if_pos h, zbl]
     by_cases h2 : k = k'
     · rw [if_pos h2, if_pos h2]
     · rw [if_neg h2, if_neg h2, if_neg (by rw [h]; exact h2)]
   · simp only [za1, if_neg h, zbl]
     by_cases h3 : p.1 = k'
     · rw [if_pos h3, if_pos h3, if_neg (fun e => h (h3.trans e.symm))]
     · rw [if_neg h3, if_neg h3]; exact za5 k v k' m
theorem znr {k : MK} : ∀ {m : List (MK × List U)}, k ∉ m.map (·.1) → zbl m k = none
 | [], _ => rfl
 | p :: m, h => by
   rw [zzj, zy3, not_or] at h
   simp only [zbl, if_neg (Ne.symm h.1)]
   exact znr h.2
theorem zdq (k k' : MK) : ∀ {m : List (MK × List U)}, (m.map (·.1)).Nodup → zbl (zdj m k) k' = if k = k' then none else zbl m k'
 | [], _ => by simp [zdj, zbl]
 | p :: m, h => by
   rw [zzj, z0q] at h
   by_cases e : p.1 = k
   · simp only [zdj, if_pos e, zbl]
     by_cases h2 : k = k'
     · rw [if_pos h2, ← h2, ← e]; exact znr h.1
     · rw [if_neg h2, if_neg (by rw [e]; exact h2)]
   · simp only [zdj, if_neg e, zbl]
     by_cases h3 : p.1 = k'
     · rw [if_pos h3, if_pos h3, if_neg (fun f => e (h3.trans f.symm))]
     · rw [if_neg h3, if_neg h3]; exact zdq k k' h.2
theorem znq (k : MK) (v : List U) : ∀ {m : List (MK × List U)} {x : MK}, x ∈ (za1 m k v).map (·.1) → x = k ∨ x ∈ m.map (·.1)
 | [], x, h => by simp [za1] at h; exact .inl h
 | p :: m, x, h => by
   by_cases e : p.1 = k
   · simp only [za1, if_pos e, zzj, zy3] at h ⊢
     rcases h with h | h
     · exact .inl h
     · exact .inr (.inr h)
   · simp only [za1, if_neg e, zzj, zy3] at h ⊢
     rcases h with h | h
     · exact .inr (.inl h)
     · exact (znq k v h).imp id .inr
theorem zid (k : MK) (v : List U) : ∀ {m : List (MK × List U)}, (m.map (·.1)).Nodup → ((za1 m k v).map (·.1)).Nodup
 | [], _ => by simp [za1]
 | p :: m, h => by
   rw [zzj, z0q] at h
   by_cases e : p.1 = k
   · simp only [za1, if_pos e, zzj, z0q]
     exact ⟨e ▸ h.1, h.2⟩
   · simp only [za1, if_neg e, zzj, z0q]
     exact ⟨fun hx => (znq k v hx).elim e h.1, zid k v h.2⟩
theorem zlc (k : MK) : ∀ {m : List (MK × List U)}, (m.map (·.1)).Nodup → ((zdj m k).map (·.1)).Nodup
 | [], _ => by simp [zdj]
 | p :: m, h => by
   rw [zzj, z0q] at h
   by_cases e : p.1 = k
   · simp only [zdj, if_pos e]; exact h.2
   · simp only [zdj, if_neg e, zzj, z0q]
     exact ⟨fun hx => by
      obtain ⟨r, hr, q⟩ := zzu.1 hx
      exact h.1 (zzu.2 ⟨r, zlb k m r hr, q⟩), zlc k h.2⟩
structure MEx (m : List (MK × List U)) (ys : List Tm) (k : Nat) : Prop where
 pos : ∀ (i : Nat) (x : Tm), ys[i]? = some x → i ≠ k → zbl m (.n x.2.1) = some [.n (i : Int)]
 only : ∀ id r, zbl m (.n id) = some r → ∃ x ∈ ys, x.2.1 = id
 nd : (m.map (·.1)).Nodup
structure MAll (m : List (MK × List U)) (ys : List Tm) : Prop where
 pos : ∀ (i : Nat) (x : Tm), ys[i]? = some x → zbl m (.n x.2.1) = some [.n (i : Int)]
 only : ∀ id r, zbl m (.n id) = some r → ∃ x ∈ ys, x.2.1 = id
 nd : (m.map (·.1)).Nodup
theorem MEx.close (h : MEx m ys k) (hi : Ids ys) (ht : ys[k]? = some t) : MAll (za1 m (.n t.2.1) [.n (k : Int)]) ys where
 pos i x hx := by
  rw [za5]
  by_cases hik : i = k
  · subst hik; rw [ht] at hx; cases hx; rw [if_pos rfl]
  · rw [if_neg (fun e => hik (hi.inj hx ht (by injection e with e; exact e.symm)))]
    exact h.pos i x hx hik
 only id r hr := by
  rw [za5] at hr
  by_cases e : (MK.n t.2.1) = .n id
  · injection e with e; exact ⟨t, zy4 ht, e⟩
  · rw [if_neg e] at hr; exact h.only id r hr
 nd := zid _ _ h.nd
theorem MEx.move {a : Nat} {p : Tm} (h : MEx m ys k) (hi : Ids ys) (ht : ys[k]? = some t) (hp : ys[a]? = some p) (hka : k ≠ a) : MEx (za1 m (.n p.2.1) [.n (k : Int)]) (swp ys k a t p) a := by
 have hkl := (zyz.1 ht).1
 have hal := (zyz.1 hp).1
 have g := zgc (ys := ys) (x := t) (y := p) hkl hal hka
 refine ⟨fun i x hx hia => ?_, fun id r hr => ?_, zid _ _ h.nd⟩
 · rw [g] at hx
   rw [za5]
   by_cases hik : i = k
   · rw [if_pos hik] at hx; cases hx; subst hik; rw [if_pos rfl]
   · rw [if_neg hik, if_neg hia] at hx
     rw [if_neg (fun e => hia (hi.inj hx hp (by injection e with e; exact e.symm)))]
     exact h.pos i x hx hik
 · have hperm := zhf ht hp hka
   rw [za5] at hr
   by_cases e : (MK.n p.2.1) = .n id
   · injection e with e; exact ⟨p, hperm.mem_iff.2 (zy4 hp), e⟩
   · rw [if_neg e] at hr
     obtain ⟨x, hx, he⟩ := h.only id r hr
     exact ⟨x, hperm.mem_iff.2 hx, he⟩
section
set_option maxRecDepth 100000
theorem mixTr : Tryz.prog.follows .mixedOrders = true := by kernel_rfl
theorem S119 {c e g d f h : Int} (hh : PRun Tryz.prog 225 [] [.i c, .i d] (post q7 [] (fun a => (PRun Tryz.prog 225 [] [.i e, .i f] (post q7 [] (fun b => (0 ≤ (0 : Int) ∧ (0 : Int) < 2 ∧ (bif a != 0 then Q (.i a) [] else 0 ≤ (1 : Int) ∧ (1 : Int) < 2 ∧ (bif b != 0 then Q (.i b) [] else Q (.i 0) [])) : Prop))) : Prop)))) : PRun Tryz.prog 119 [] [.a [.i c, .i e, .i g], .a [.i d, .i f, .i h]] Q :=
 zad mixTr Tryz.func119 (by kernel_rfl) (H := ⟨[], [], [224], [], [], false, 64, KN.no, false, SP.no⟩) (n := 3) (by kernel_rfl) hh
theorem S218 {g : List (List U)} {s : List (MK × List U)} {o p e : Int} (hh : 0 ≤ e ∧ e < (zyv g : Int) ∧ (elL g e (fun h => dI .i64 (ug h 0) (fun i => dI .i64 (ug h 1) (fun d => dI .i64 (ug h 2) (fun j => ∃ (k : Int → List (List U) → List (MK × List U) → Prop) (n : Int → List (List U) → List (MK × List U) → Nat), k e g s ∧ (∀ a : Int, ∀ b : List (List U), ∀ c : List (MK × List U), k a b c → (bif decide (a > 0) then (2 : Int) ≠ 0 ∧ (0 ≤ zyu .i64 (Int.tdiv (zyu .i64 (a - 1)) 2) ∧ zyu .i64 (Int.tdiv (zyu .i64 (a - 1)) 2) < (zyv b : Int) ∧ (elL b (zyu .i64 (Int.tdiv (zyu .i64 (a - 1)) 2)) (fun l => dI .i64 (ug l 0) (fun t => dI .i64 (ug l 1) (fun u => dI .i64 (ug l 2) (fun v => PRun Tryz.prog 119 [] [.a [.i i, .i d, .i j], .a [.i t, .i u, .i v]] (post q7 [] (fun w => (bif decide (w > 0) then 0 ≤ a ∧ a < (zyv b : Int) ∧ (Q (.t []) (q23 o p (zzb b (zyx a) [.n i, .n d, .n j]) (za1 c (.n d) [.n a]))) else 0 ≤ zyu .i64 (Int.tdiv (zyu .i64 (a - 1)) 2) ∧ zyu .i64 (Int.tdiv (zyu .i64 (a - 1)) 2) < (zyv b : Int) ∧ (elL b (zyu .i64 (Int.tdiv (zyu .i64 (a - 1)) 2)) (fun m => dI .i64 (ug m 0) (fun q => dI .i64 (ug m 1) (fun f => dI .i64 (ug m 2) (fun r => 0 ≤ a ∧ a < (zyv b : Int) ∧ (k (zyu .i64 (Int.tdiv (zyu .i64 (a - 1)) 2)) (zzb b (zyx a) [.n q, .n f, .n r]) (za1 c (.n f) [.n a]) ∧ n (zyu .i64 (Int.tdiv (zyu .i64 (a - 1)) 2)) (zzb b (zyx a) [.n q, .n f, .n r]) (za1 c (.n f) [.n a]) < n a b c)))))) : Prop))))))))) else 0 ≤ a ∧ a < (zyv b : Int) ∧ (Q (.t []) (q23 o p (zzb b (zyx a) [.n i, .n d, .n j]) (za1 c (.n d) [.n a]))))))))))) : PRun Tryz.prog 218 (q23 o p g s) [.r 0 0, .i e] Q :=
 zad mixTr Tryz.func218 (by kernel_rfl) (H := ⟨[((218, 1, 4), ⟨[(1, .I)], [(1, .row 103 3), (2, .mp .n 1 false)]⟩)], [], [217], [], [], false, 64, KN.no, false, SP.no⟩) (n := 3) (by kernel_rfl) hh
theorem S176 {g : List (MK × List U)} {e f b c d : Int} (hh : zan a [[.n b, .n c, .n d]] ∧ (PRun Tryz.prog 218 (q23 e f (a ++ [[.n b, .n c, .n d]]) g) [.r 0 0, .i (zyu .i64 ((zyv (a ++ [[.n b, .n c, .n d]]) : Int) - 1))] (post [] q6 (fun h i j k => (Q (.t []) (q30 i j k h) : Prop))))) : PRun Tryz.prog 176 (q23 e f a g) [.r 0 0, .a [.i b, .i c, .i d]] Q :=
 zad mixTr Tryz.func176 (by kernel_rfl) (H := ⟨[], [], [], [], [], false, 64, KN.no, false, SP.no⟩) (n := 2) (by kernel_rfl) hh
end
section
variable {Q : V → Mem → Prop}
abbrev rT (t : Tm) : List U := [.n t.1, .n t.2.1, .n t.2.2]
abbrev tV (t : Tm) : V := .a [.i t.1, .i t.2.1, .i t.2.2]
abbrev qM (xs : List Tm) (m : List (MK × List U)) (most next : Int) : Mem := [.c [.w 1, .m 2, .i most, .i next], .w 103 3 (xs.map rT), .p .n 1 false m]
theorem zja {a b : Tm} (k : ∀ x : Int, (x > 0 ↔ ¬ leT a b) → (x < 0 ↔ ¬ leT b a) → Q (.i x) []) : PRun Tryz.prog 119 [] [tV a, tV b] Q := by
 refine S119 (zou ?_)
 rw [zaw]
 refine zou ?_
 rw [zaw]
 refine ⟨by omega, by omega, ?_⟩
 unfold leT at k
 by_cases h1 : a.1 < b.1
 · rw [if_pos h1]; exact k _ (by omega) (by omega)
 · by_cases h2 : b.1 < a.1
   · rw [if_neg h1, if_pos h2]; exact k _ (by omega) (by omega)
   · rw [if_neg h1, if_neg h2]
     refine ⟨by omega, by omega, ?_⟩
     by_cases h3 : a.2.1 < b.2.1
     · rw [if_pos h3]; exact k _ (by omega) (by omega)
     · by_cases h4 : b.2.1 < a.2.1
       · rw [if_neg h3, if_pos h4]; exact k _ (by omega) (by omega)
       · rw [if_neg h3, if_neg h4]; exact k _ (by omega) (by omega)
theorem zrh (hk : xs[k]? = some t) : xs.set k t = xs := by
 apply z1a
 intro i
 by_cases hik : k = i
 · subst hik; rw [zz3 (zyz.1 hk).1, hk]
 · rw [zzp hik]
theorem upQ_S (hk : xs[k]? = some t) (hn : xs.length ≤ 1000000) (hi : Ids xs) (hH : HpE xs k) (hM : MEx m xs k)
 (K : ∀ (ys : List Tm) (m' : List (MK × List U)) (k' : Nat), ys.Perm xs → HpE ys k' → UpOK ys k' → ys[k']? = some t → MAll m' ys → ((k' = k ∧ ys = xs) ∨ zkw ys k') → Q (.t []) (qM ys m' most next)) :
 PRun Tryz.prog 218 (qM xs m most next) [.r 0 0, .i (k : Int)] Q := by
 have hkl := (zyz.1 hk).1
 refine S218 ⟨by omega, by rw [zy2]; omega, ?_⟩
 rw [zah (r := rT t) (by omega) (by simp [hk])]
 simp only [rT, ug0, ugs, zbs]
 refine ⟨fun x l m' => ∃ (j : Nat) (zs ys : List Tm), x = (j : Int) ∧ l = zs.map rT ∧ zs.set j t = ys ∧ ys[j]? = some t ∧ ys.Perm xs ∧ HpE ys j ∧ MEx m' ys j ∧ ((j = k ∧ ys = xs) ∨ zkw ys j), fun x _ _ => x.toNat,
  ⟨k, xs, xs, rfl, rfl, zrh hk, hk, .refl _, hH, hM, .inl ⟨rfl, rfl⟩⟩, ?_⟩
 rintro _ _ m3 ⟨j, zs, ys, rfl, rfl, hset, hj, hperm, hH3, hM3, hdn⟩
 have hlz : zs.length = ys.length := by rw [← hset, zzz]
 have hly : ys.length = xs.length := hperm.length_eq
 have hjl := (zyz.1 hj).1
 have hiy : Ids ys := zdv hperm hi
 have hzy : ∀ i, i ≠ j → zs[i]? = ys[i]? := fun i hij => by rw [← hset, zzp (Ne.symm hij)]
 have hend : UpOK ys j → 0 ≤ (j : Int) ∧ (j : Int) < ((zs.map rT).length : Int) ∧ Q (.t []) [.c [.w 1, .m 2, .i most, .i next], .w 103 3 (zzb (zs.map rT) (zyx (j : Int)) [.n t.1, .n t.2.1, .n t.2.2]), .p .n 1 false (za1 m3 (.n t.2.1) [.n (j : Int)])] := fun hu => by
  refine ⟨by omega, by rw [zy2]; omega, ?_⟩
  have e : zzb (zs.map rT) (zyx (j : Int)) (rT t) = ys.map rT := by rw [zzm, ← hset, z1b]
  rw [show ([.n t.1, .n t.2.1, .n t.2.2] : List U) = rT t from rfl, e]
  exact K ys _ j hperm hH3 hu hj (hM3.close hiy hj) hdn
 refine cIf (fun hpos => ?_) fun h0 => hend fun h => by omega
 have hj0 : 0 < j := by omega
 rw [tdiv_par hj0 (by omega)]
 have hpj := zc5 hj0
 obtain ⟨p, hp⟩ : ∃ p, ys[par j]? = some p := ⟨ys[par j]'(by omega), zy0 (by omega)⟩
 have hpz : zs[par j]? = some p := (hzy _ (by omega)).trans hp
 refine ⟨by decide, by omega, by rw [zy2]; omega, ?_⟩
 rw [zah (r := rT p) (by omega) (by simp [hpz])]
 simp only [rT, ug0, ugs, zbs]
 refine zja fun x hx1 hx2 => ?_
 rw [zaw]
 refine cIf (fun hgt => ?_) fun hle => ?_
 · exact hend fun _ u w hu hw => by
    rw [hp] at hu; rw [hj] at hw
    cases hu; cases hw
    exact leT.total (hx1.1 hgt)
 · have hlt : leT t p := Decidable.byContradiction fun hc => hle (hx1.2 hc)
   refine ⟨by omega, by rw [zy2]; omega, ?_⟩
   rw [zah (r := rT p) (by omega) (by simp [hpz])]
   simp only [rT, ug0, ugs, zbs]
   obtain ⟨hup, hdo⟩ := hH3.up hj0 hj hp hlt
   refine ⟨by omega, by rw [zy2]; omega, ⟨par j, zs.set j p, swp ys j (par j) t p, rfl, ?_, ?_, ?_, (zhf hj hp (by omega)).trans hperm, hup, hM3.move hiy hj hp (by omega), .inr hdo⟩, by simp only [zzm]; exact hpj⟩
   · rw [zzm, z1b]
   · unfold swp
     rw [← hset, List.set_set]
   · rw [zgc hjl (by omega) (by omega), if_neg (by omega), if_pos rfl]
end
section
variable {Q : V → Mem → Prop}
structure QInv (xs : List Tm) (m : List (MK × List U)) : Prop where
 heap : IsHeap xs
 all : MAll m xs
 ids : Ids xs
abbrev qN (xs : List Tm) (m : List (MK × List U)) (most next : Int) : Mem := [.c [.w 3, .m 2, .i most, .i next], .x, .p .n 1 false m, .w 103 3 (xs.map rT)]
theorem zv9 (xs : List Tm) (m : List (MK × List U)) (most next : Int) : Nrm (qN xs m most next) (qM xs m most next) :=
 Nrm.four (l := [.w 3, .m 2, .i most, .i next]) (by simp [za9, zag, zae]) (by simp [za9]) (by simp [za9])
theorem push_S (h : QInv xs m) (ht : ∀ x ∈ xs, x.2.1 ≠ t.2.1) (hn : xs.length ≤ 100000)
 (K : ∀ (ys : List Tm) (m' : List (MK × List U)), QInv ys m' → ys.Perm (t :: xs) → Q (.t []) (qN ys m' most next)) :
 PRun Tryz.prog 176 (qM xs m most next) [.r 0 0, tV t] Q := by
 have hxl : (xs ++ [t]).length = xs.length + 1 := by simp
 have hlast : (xs ++ [t])[xs.length]? = some t := by simp
 have hnone : ∀ j, xs.length < j → (xs ++ [t])[j]? = none := fun j hj => z0m (by rw [hxl]; omega)
 have hold : ∀ j, j < xs.length → (xs ++ [t])[j]? = xs[j]? := fun j hj => zy7 hj
 have hpn : ∀ j, 0 < j → par j = xs.length → (xs ++ [t])[j]? = none := fun j hj hpj => hnone j (by have := zc5 hj; omega)
 have hE : HpE (xs ++ [t]) xs.length := ⟨fun i hi0 hin hpi x y hx hy => by
  have hil : i < xs.length := by
   have := (zyz.1 hy).1; rw [hxl] at this; omega
  have := zc5 hi0
  rw [hold _ (by omega)] at hx hy
  exact h.heap i hi0 x y hx hy, fun j hj hpj hk x y hx hy => by rw [hpn j hj hpj] at hy; cases hy⟩
 have hD : zkw (xs ++ [t]) xs.length := fun j hj hpj x y hx hy => by rw [hpn j hj hpj] at hy; cases hy
 have hids : Ids (xs ++ [t]) := by
  show ((xs ++ [t]).map (·.2.1)).Nodup
  rw [zzr, z01]
  refine ⟨h.ids, by simp, fun u hu w hw' => ?_⟩
  simp at hw'; subst hw'
  obtain ⟨x, hx, rfl⟩ := zzu.1 hu
  exact ht x hx
 have hMx : MEx m (xs ++ [t]) xs.length := ⟨fun i x hx hin => by
  have hil : i < xs.length := by
   have := (zyz.1 hx).1; rw [hxl] at this; omega
  rw [hold _ hil] at hx
  exact h.all.pos i x hx, fun id r hr => by obtain ⟨x, hx, he⟩ := h.all.only id r hr; exact ⟨x, by simp [hx], he⟩, h.all.nd⟩
 have e1 : xs.map rT ++ [rT t] = (xs ++ [t]).map rT := by simp
 refine S176 ⟨by unfold zan; simp; omega, ?_⟩
 have ew : zyu .i64 ((zyv ((xs ++ [t]).map rT) : Int) - 1) = (xs.length : Nat) := by rw [zy2, hxl, w64 (by omega) (by omega)]; omega
 rw [show ([[.n t.1, .n t.2.1, .n t.2.2]] : List (List U)) = [rT t] from rfl, e1, ew]
 refine upQ_S hlast (by rw [hxl]; omega) hids hE hMx fun ys m' k' hperm hHE hU hkt hMA hdn => ?_
 have hD5 : zkw ys k' := by
  rcases hdn with ⟨rfl, rfl⟩ | h
  · exact hD
  · exact h
 exact K ys m' ⟨hHE.heap hU hD5, hMA, zdv hperm hids⟩ (hperm.trans z1q)
end
section
set_option maxRecDepth 100000
theorem ztt : Tryz.prog.follows .mixedOrders = true := by kernel_rfl
theorem S219 {ζ : List (MK × List U)} {h i k : Int} (hh : 0 ≤ k ∧ k < (zyv o : Int) ∧ (elL o k (fun p => dI .i64 (ug p 0) (fun e => dI .i64 (ug p 1) (fun d => dI .i64 (ug p 2) (fun f => ∃ (j : Int → List (List U) → List (MK × List U) → Prop) (g : Int → List (List U) → List (MK × List U) → Nat), j k o ζ ∧ (∀ a : Int, ∀ b : List (List U), ∀ c : List (MK × List U), j a b c → (bif decide (zyu .i64 (zyu .i64 (zyu .i64 (2 * a) + 1) + 1) < (zyv b : Int)) then 0 ≤ zyu .i64 (zyu .i64 (zyu .i64 (2 * a) + 1) + 1) ∧ zyu .i64 (zyu .i64 (zyu .i64 (2 * a) + 1) + 1) < (zyv b : Int) ∧ (elL b (zyu .i64 (zyu .i64 (zyu .i64 (2 * a) + 1) + 1)) (fun q => dI .i64 (ug q 0) (fun η => dI .i64 (ug q 1) (fun θ => dI .i64 (ug q 2) (fun ι => 0 ≤ zyu .i64 (zyu .i64 (2 * a) + 1) ∧ zyu .i64 (zyu .i64 (2 * a) + 1) < (zyv b : Int) ∧ (elL b (zyu .i64 (zyu .i64 (2 * a) + 1)) (fun r => dI .i64 (ug r 0) (fun κ => dI .i64 (ug r 1) (fun μ => dI .i64 (ug r 2) (fun ν => PRun Tryz.prog 119 [] [.a [.i η, .i θ, .i ι], .a [.i κ, .i μ, .i ν]] (post q7 [] (fun ξ => (bif decide (ξ < 0) then (bif decide (zyu .i64 (zyu .i64 (zyu .i64 (2 * a) + 1) + 1) ≥ (zyv b : Int)) then 0 ≤ a ∧ a < (zyv b : Int) ∧ (Q (.t []) (q23 h i (zzb b (zyx a) [.n e, .n d, .n f]) (za1 c (.n d) [.n a]))) else 0 ≤ zyu .i64 (zyu .i64 (zyu .i64 (2 * a) + 1) + 1) ∧ zyu .i64 (zyu .i64 (zyu .i64 (2 * a) + 1) + 1) < (zyv b : Int) ∧ (elL b (zyu .i64 (zyu .i64 (zyu .i64 (2 * a) + 1) + 1)) (fun s => dI .i64 (ug s 0) (fun ο => dI .i64 (ug s 1) (fun π => dI .i64 (ug s 2) (fun ρ => PRun Tryz.prog 119 [] [.a [.i ο, .i π, .i ρ], .a [.i e, .i d, .i f]] (post q7 [] (fun σ => (bif decide (σ > 0) then 0 ≤ a ∧ a < (zyv b : Int) ∧ (Q (.t []) (q23 h i (zzb b (zyx a) [.n e, .n d, .n f]) (za1 c (.n d) [.n a]))) else 0 ≤ zyu .i64 (zyu .i64 (zyu .i64 (2 * a) + 1) + 1) ∧ zyu .i64 (zyu .i64 (zyu .i64 (2 * a) + 1) + 1) < (zyv b : Int) ∧ (elL b (zyu .i64 (zyu .i64 (zyu .i64 (2 * a) + 1) + 1)) (fun t => dI .i64 (ug t 0) (fun y => dI .i64 (ug t 1) (fun l => dI .i64 (ug t 2) (fun α => 0 ≤ a ∧ a < (zyv b : Int) ∧ (j (zyu .i64 (zyu .i64 (zyu .i64 (2 * a) + 1) + 1)) (zzb b (zyx a) [.n y, .n l, .n α]) (za1 c (.n l) [.n a]) ∧ g (zyu .i64 (zyu .i64 (zyu .i64 (2 * a) + 1) + 1)) (zzb b (zyx a) [.n y, .n l, .n α]) (za1 c (.n l) [.n a]) < g a b c)))))) : Prop))))))))) else (bif decide (zyu .i64 (zyu .i64 (2 * a) + 1) ≥ (zyv b : Int)) then 0 ≤ a ∧ a < (zyv b : Int) ∧ (Q (.t []) (q23 h i (zzb b (zyx a) [.n e, .n d, .n f]) (za1 c (.n d) [.n a]))) else 0 ≤ zyu .i64 (zyu .i64 (2 * a) + 1) ∧ zyu .i64 (zyu .i64 (2 * a) + 1) < (zyv b : Int) ∧ (elL b (zyu .i64 (zyu .i64 (2 * a) + 1)) (fun u => dI .i64 (ug u 0) (fun τ => dI .i64 (ug u 1) (fun υ => dI .i64 (ug u 2) (fun φ => PRun Tryz.prog 119 [] [.a [.i τ, .i υ, .i φ], .a [.i e, .i d, .i f]] (post q7 [] (fun χ => (bif decide (χ > 0) then 0 ≤ a ∧ a < (zyv b : Int) ∧ (Q (.t []) (q23 h i (zzb b (zyx a) [.n e, .n d, .n f]) (za1 c (.n d) [.n a]))) else 0 ≤ zyu .i64 (zyu .i64 (2 * a) + 1) ∧ zyu .i64 (zyu .i64 (2 * a) + 1) < (zyv b : Int) ∧ (elL b (zyu .i64 (zyu .i64 (2 * a) + 1)) (fun v => dI .i64 (ug v 0) (fun β => dI .i64 (ug v 1) (fun m => dI .i64 (ug v 2) (fun γ => 0 ≤ a ∧ a < (zyv b : Int) ∧ (j (zyu .i64 (zyu .i64 (2 * a) + 1)) (zzb b (zyx a) [.n β, .n m, .n γ]) (za1 c (.n m) [.n a]) ∧ g (zyu .i64 (zyu .i64 (2 * a) + 1)) (zzb b (zyx a) [.n β, .n m, .n γ]) (za1 c (.n m) [.n a]) < g a b c)))))) : Prop))))))))) : Prop))))))))))))) else (bif decide (zyu .i64 (zyu .i64 (2 * a) + 1) ≥ (zyv b : Int)) then 0 ≤ a ∧ a < (zyv b : Int) ∧ (Q (.t []) (q23 h i (zzb b (zyx a) [.n e, .n d, .n f]) (za1 c (.n d) [.n a]))) else 0 ≤ zyu .i64 (zyu .i64 (2 * a) + 1) ∧ zyu .i64 (zyu .i64 (2 * a) + 1) < (zyv b : Int) ∧ (elL b (zyu .i64 (zyu .i64 (2 * a) + 1)) (fun w => dI .i64 (ug w 0) (fun ψ => dI .i64 (ug w 1) (fun ω => dI .i64 (ug w 2) (fun a0 => PRun Tryz.prog 119 [] [.a [.i ψ, .i ω, .i a0], .a [.i e, .i d, .i f]] (post q7 [] (fun a1 => (bif decide (a1 > 0) then 0 ≤ a ∧ a < (zyv b : Int) ∧ (Q (.t []) (q23 h i (zzb b (zyx a) [.n e, .n d, .n f]) (za1 c (.n d) [.n a]))) else 0 ≤ zyu .i64 (zyu .i64 (2 * a) + 1) ∧ zyu .i64 (zyu .i64 (2 * a) + 1) < (zyv b : Int) ∧ (elL b (zyu .i64 (zyu .i64 (2 * a) + 1)) (fun x => dI .i64 (ug x 0) (fun δ => dI .i64 (ug x 1) (fun n => dI .i64 (ug x 2) (fun ε => 0 ≤ a ∧ a < (zyv b : Int) ∧ (j (zyu .i64 (zyu .i64 (2 * a) + 1)) (zzb b (zyx a) [.n δ, .n n, .n ε]) (za1 c (.n n) [.n a]) ∧ g (zyu .i64 (zyu .i64 (2 * a) + 1)) (zzb b (zyx a) [.n δ, .n n, .n ε]) (za1 c (.n n) [.n a]) < g a b c)))))) : Prop))))))))))))))))) : PRun Tryz.prog 219 (q23 h i o ζ) [.r 0 0, .i k] Q :=
 zad ztt Tryz.func219 (by kernel_rfl) (H := ⟨[((219, 1, 4), ⟨[(1, .I)], [(1, .row 103 3), (2, .mp .n 1 false)]⟩)], [], [217], [], [], false, 64, KN.no, false, SP.no⟩) (n := 3) (by kernel_rfl) hh
theorem S112 {l : List (MK × List U)} {k b : Int} (hh : 0 ≤ b ∧ b < (zyv a : Int) ∧ (elL a b (fun d => dI .i64 (ug d 0) (fun e => dI .i64 (ug d 1) (fun c => dI .i64 (ug d 2) (fun f => 0 ≤ zyu .i64 ((zyv a : Int) - 1) ∧ zyu .i64 ((zyv a : Int) - 1) < (zyv a : Int) ∧ (elL a (zyu .i64 ((zyv a : Int) - 1)) (fun g => dI .i64 (ug g 0) (fun p => dI .i64 (ug g 1) (fun h => dI .i64 (ug g 2) (fun q => 0 ≤ zyu .i64 ((zyv a : Int) - 1) ∧ zyu .i64 ((zyv a : Int) - 1) ≤ (zyv a : Int) ∧ (bif decide (b < zyu .i64 ((zyv a : Int) - 1)) then 0 ≤ b ∧ b < (zyv (List.take (zyx (zyu .i64 ((zyv a : Int) - 1))) a) : Int) ∧ (PRun Tryz.prog 218 (q23 j k (zzb (List.take (zyx (zyu .i64 ((zyv a : Int) - 1))) a) (zyx b) [.n p, .n h, .n q]) (za1 (zdj l (.n c)) (.n h) [.n b])) [.r 0 0, .i b] (post [] q6 (fun m n o i => (mO (zbl i (.n h)) (fun r => (dI .i64 (ug r 0) (fun s => PRun Tryz.prog 219 (q23 n o m i) [.r 0 0, .i s] (post [] q6 (fun t u v w => (Q (.a [.i e, .i c, .i f]) (q30 u v w t) : Prop)))) : Prop)) (PRun Tryz.prog 219 (q23 n o m i) [.r 0 0, .i 0] (post [] q6 (fun x y α β => (Q (.a [.i e, .i c, .i f]) (q30 y α β x) : Prop)))) : Prop)))) else Q (.a [.i e, .i c, .i f]) (q30 j k (zdj l (.n c)) (List.take (zyx (zyu .i64 ((zyv a : Int) - 1))) a)))))))))))))) : PRun Tryz.prog 112 (q23 j k a l) [.r 0 0, .i b] Q :=
 zad ztt Tryz.func112 (by kernel_rfl) (H := ⟨[], [], [217], [], [], false, 64, KN.no, false, SP.no⟩) (n := 3) (by kernel_rfl) hh
theorem S345 {c : List (List U)} {b a e f : Int} (hh : PRun Tryz.prog 176 (q23 b (zyu .i64 (a + 1)) c d) [.r 0 0, .a [.i e, .i a, .i f]] (post [] q6 (fun g h i j => (Q (.i a) (q30 h i j g) : Prop)))) : PRun Tryz.prog 345 (q23 b a c d) [.r 0 0, .i e, .i f] Q :=
 zad ztt Tryz.func345 (by kernel_rfl) (H := ⟨[], [], [], [], [], false, 64, KN.no, false, SP.no⟩) (n := 2) (by kernel_rfl) hh
theorem S295 {c : List (List U)} {a b e f : Int} (hh : bif decide (e < 0) then Q (.t [.i 0, .i 1]) (q23 a b c d) else (bif decide ((zyv c : Int) ≥ a) then Q (.t [.i 0, .i 4]) (q23 a b c d) else (bif b == 1099511627776 then Q (.t [.i 0, .i 4]) (q23 a b c d) else PRun Tryz.prog 345 (q23 a b c d) [.r 0 0, .i e, .i f] (post q7 q6 (fun g h i j k => (Q (.t [.i g, .i 0]) (q30 i j k h) : Prop)))))) : PRun Tryz.prog 295 (q23 a b c d) [.r 0 0, .i e, .i f] Q :=
 zad ztt Tryz.func295 (by kernel_rfl) (H := ⟨[], [], [116], [], [], false, 64, KN.no, false, SP.no⟩) (n := 3) (by kernel_rfl) hh
theorem S300 {d : List (List U)} {a : List (MK × List U)} {b c e : Int} (hh : mO (zbl a (.n e)) (fun f => (dI .i64 (ug f 0) (fun g => PRun Tryz.prog 112 (q23 b c d a) [.r 0 0, .i g] (post [.agg [.i .i64, .i .i64, .i .i64]] q6 (fun l m n h i j k => (Q (.i 0) (q30 i j k h) : Prop)))) : Prop)) (Q (.i 3) (q23 b c d a))) : PRun Tryz.prog 300 (q23 b c d a) [.r 0 0, .i e] Q :=
 zad ztt Tryz.func300 (by kernel_rfl) (H := ⟨[], [], [116, 348], [], [], false, 64, KN.no, false, SP.no⟩) (n := 4) (by kernel_rfl) hh
theorem S39 {b c g : Int} (hh : bif (zyv a : Int) == 0 then Q (.t [.a [.i 0, .i 0, .i 0], .u (.b false)]) (q23 b c a d) else 0 ≤ (0 : Int) ∧ (0 : Int) < (zyv a : Int) ∧ (elL a 0 (fun e => dI .i64 (ug e 0) (fun f => dI .i64 (ug e 1) (fun o => dI .i64 (ug e 2) (fun p => (bif decide (f > g) then Q (.t [.a [.i 0, .i 0, .i 0], .u (.b false)]) (q23 b c a d) else PRun Tryz.prog 112 (q23 b c a d) [.r 0 0, .i 0] (post [.agg [.i .i64, .i .i64, .i .i64]] q6 (fun h i j k l m n => (Q (.t [.a [.i h, .i i, .i j], .u (.b true)]) (q30 l m n k) : Prop)))))))))) : PRun Tryz.prog 39 (q23 b c a d) [.r 0 0, .i g] Q :=
 zad ztt Tryz.func39 (by kernel_rfl) (H := ⟨[], [], [111, 116], [], [], false, 64, KN.no, false, SP.no⟩) (n := 4) (by kernel_rfl) hh
end
section
variable {Q : V → Mem → Prop}
theorem zfs {i j : Nat} (h : 0 < i) : par i = j ↔ i = 2 * j + 1 ∨ i = 2 * j + 2 := by unfold par; omega
def DwI (xs : List Tm) (t : Tm) (x : Int) (l : List (List U)) (m' : List (MK × List U)) : Prop :=
 ∃ (j : Nat) (zs ys : List Tm), x = (j : Int) ∧ l = zs.map rT ∧ zs.set j t = ys ∧ ys[j]? = some t ∧ ys.Perm xs ∧ HpE ys j ∧ UpOK ys j ∧ MEx m' ys j
def DTail (xs : List Tm) (t : Tm) (be x4 : Int) (l1 : List (List U)) (m1 : List (MK × List U)) (E : Prop) : Prop :=
 bif decide (be ≥ (zyv l1 : Int)) then E
 else 0 ≤ be ∧ be < (zyv l1 : Int) ∧ (elL l1 be (fun r4 => dI .i64 (ug r4 0) (fun x12 => dI .i64 (ug r4 1) (fun x13 => dI .i64 (ug r4 2) (fun x14 => PRun Tryz.prog 119 [] [.a [.i x12, .i x13, .i x14], .a [.i t.1, .i t.2.1, .i t.2.2]] (post [.I] [] (fun x15 => (bif decide (x15 > 0) then E
  else 0 ≤ be ∧ be < (zyv l1 : Int) ∧ (elL l1 be (fun r5 => dI .i64 (ug r5 0) (fun x16 => dI .i64 (ug r5 1) (fun x17 => dI .i64 (ug r5 2) (fun x18 => 0 ≤ x4 ∧ x4 < (zyv l1 : Int) ∧ (DwI xs t be (zzb l1 (zyx x4) [.n x16, .n x17, .n x18]) (za1 m1 (.n x17) [.n x4]) ∧ xs.length - be.toNat < xs.length - x4.toNat)))))) : Prop))))))))
theorem dTail {zs : List Tm} {m3 : List (MK × List U)} {j be : Nat} {E : Prop} (hset : zs.set j t = ys) (hj : ys[j]? = some t) (hperm : ys.Perm xs) (hi : Ids xs) (hH : HpE ys j) (hU : UpOK ys j) (hM : MEx m3 ys j) (hn : xs.length ≤ 1000000)
 (hE : IsHeap ys → E) (hbe : be = 2 * j + 1 ∨ be = 2 * j + 2) (hno : ¬ be < ys.length → ∀ i, 0 < i → par i = j → ys[i]? = none)
 (hsm : ∀ u, ys[be]? = some u → ∀ i w, 0 < i → par i = j → ys[i]? = some w → leT u w) : DTail xs t (be : Int) (j : Int) (zs.map rT) m3 E := by
 have hlz : zs.length = ys.length := by rw [← hset, zzz]
 have hly : ys.length = xs.length := hperm.length_eq
 have hjl := (zyz.1 hj).1
 have hiy : Ids ys := zdv hperm hi
 have hzy : ∀ i, i ≠ j → zs[i]? = ys[i]? := fun i hij => by rw [← hset, zzp (Ne.symm hij)]
 have hb0 : 0 < be := by omega
 have hpb : par be = j := (zfs hb0).2 hbe
 unfold DTail
 rw [zy2]
 refine cIf (fun hge => ?_) (fun hlt => ?_)
 · exact hE (hH.heap hU fun i hi0 hpi x y hx hy => by rw [hno (by omega) i hi0 hpi] at hy; cases hy)
 have hbl : be < ys.length := by omega
 obtain ⟨u, hu⟩ : ∃ u, ys[be]? = some u := ⟨ys[be], zy0 hbl⟩
 have hbj : be ≠ j := by omega
 have huz : zs[be]? = some u := (hzy be hbj).trans hu
 refine ⟨by omega, by omega, ?_⟩
 rw [zah (r := rT u) (by omega) (by simp [huz])]
 simp only [rT, ug0, ugs, zbs]
 refine zja fun x hx1 hx2 => ?_
 rw [zaw]
 refine cIf (fun hgt => ?_) (fun hle => ?_)
 · refine hE (hH.heap hU fun i hi0 hpi p w hp hw => ?_)
   rw [hpi, hj] at hp
   cases hp
   exact (leT.total (hx1.1 hgt)).trans (hsm u hu i w hi0 hpi hw)
 · have hut : leT u t := Decidable.byContradiction fun hc => hle (hx1.2 hc)
   refine ⟨by omega, by omega, ?_⟩
   rw [zah (r := rT u) (by omega) (by simp [huz])]
   simp only [rT, ug0, ugs, zbs]
   obtain ⟨hdo, hup⟩ := hH.down hb0 hpb hj hu hut (fun i w h1 h2 h3 => hsm u hu i w h1 h2 h3)
   refine ⟨by omega, by omega, ⟨be, zs.set j u, swp ys j be t u, rfl, ?_, ?_, ?_, (zhf hj hu (Ne.symm hbj)).trans hperm, hdo, hup, hM.move hiy hj hu (Ne.symm hbj)⟩, by simp only [zzm]; omega⟩
   · rw [zzm, z1b]
   · unfold swp
     rw [← hset, List.set_set]
   · rw [zgc hjl hbl (Ne.symm hbj), if_neg hbj, if_pos rfl]
theorem down_S (hk : xs[k]? = some t) (hn : xs.length ≤ 1000000) (hi : Ids xs) (hH : HpE xs k) (hU : UpOK xs k) (hM : MEx m xs k)
 (K : ∀ (ys : List Tm) (m' : List (MK × List U)), ys.Perm xs → QInv ys m' → Q (.t []) (qM ys m' most next)) :
 PRun Tryz.prog 219 (qM xs m most next) [.r 0 0, .i (k : Int)] Q := by
 have hkl := (zyz.1 hk).1
 refine S219 ⟨by omega, by rw [zy2]; omega, ?_⟩
 rw [zah (r := rT t) (by omega) (by simp [hk])]
 simp only [rT, ug0, ugs, zbs]
 refine ⟨DwI xs t, fun x _ _ => xs.length - x.toNat, ⟨k, xs, xs, rfl, rfl, zrh hk, hk, .refl _, hH, hU, hM⟩, ?_⟩
 rintro _ _ m3 ⟨j, zs, ys, rfl, rfl, hset, hj, hperm, hH3, hU3, hM3⟩
 have hlz : zs.length = ys.length := by rw [← hset, zzz]
 have hly : ys.length = xs.length := hperm.length_eq
 have hjl := (zyz.1 hj).1
 have hiy : Ids ys := zdv hperm hi
 have hzy : ∀ i, i ≠ j → zs[i]? = ys[i]? := fun i hij => by rw [← hset, zzp (Ne.symm hij)]
 have hw1 : zyu .i64 (zyu .i64 (2 * (j : Int)) + 1) = ((2 * j + 1 : Nat) : Int) := by rw [w64 (x := 2 * (j : Int)) (by omega) (by omega), w64 (by omega) (by omega)]; omega
 have hw2 : zyu .i64 (((2 * j + 1 : Nat) : Int) + 1) = ((2 * j + 2 : Nat) : Int) := by rw [w64 (by omega) (by omega)]; omega
 rw [hw1, hw2]
 have hend : IsHeap ys → 0 ≤ (j : Int) ∧ (j : Int) < ((zs.map rT).length : Int) ∧ Q (.t []) [.c [.w 1, .m 2, .i most, .i next], .w 103 3 (zzb (zs.map rT) (zyx (j : Int)) [.n t.1, .n t.2.1, .n t.2.2]), .p .n 1 false (za1 m3 (.n t.2.1) [.n (j : Int)])] := fun hh => by
  refine ⟨by omega, by rw [zy2]; omega, ?_⟩
  have e : zzb (zs.map rT) (zyx (j : Int)) (rT t) = ys.map rT := by rw [zzm, ← hset, z1b]
  rw [show ([.n t.1, .n t.2.1, .n t.2.2] : List U) = rT t from rfl, e]
  exact K ys _ hperm ⟨hh, hM3.close hiy hj, hiy⟩
 have tl := fun (be : Nat) => dTail (be := be) hset hj hperm hi hH3 hU3 hM3 hn hend
 refine cIf (fun hlt => ?_) (fun hge => ?_)
 · rw [zy2] at hlt
   have l1 : 2 * j + 1 < ys.length := by omega
   have l2 : 2 * j + 2 < ys.length := by omega
   obtain ⟨u, hu⟩ : ∃ u, ys[2 * j + 1]? = some u := ⟨ys[2 * j + 1], zy0 l1⟩
   obtain ⟨w, hw⟩ : ∃ w, ys[2 * j + 2]? = some w := ⟨ys[2 * j + 2], zy0 l2⟩
   refine ⟨by omega, by rw [zy2]; omega, ?_⟩
   rw [zah (r := rT w) (by omega) (by have := (hzy (2 * j + 2) (by omega)).trans hw; simp only [zzm, zy5, this, z0g])]
   simp only [rT, ug0, ugs, zbs]
   refine ⟨by omega, by rw [zy2]; omega, ?_⟩
   rw [zah (r := rT u) (by omega) (by have := (hzy (2 * j + 1) (by omega)).trans hu; simp only [zzm, zy5, this, z0g])]
   simp only [rT, ug0, ugs, zbs]
   refine zja fun x hx1 hx2 => ?_
   rw [zaw]
   refine cIf (fun hl => ?_) (fun hl => ?_)
   · have hwu := leT.total (hx2.1 hl)
     exact tl (2 * j + 2) (.inr rfl) (fun hc => absurd l2 hc) fun u' hu' i w' hi0 hpi hw' => by
      rw [hw] at hu'; cases hu'
      rcases (zfs hi0).1 hpi with rfl | rfl
      · rw [hu] at hw'; cases hw'; exact hwu
      · rw [hw] at hw'; cases hw'; exact .refl _
   · have huw : leT u w := Decidable.byContradiction fun hc => hl (hx2.2 hc)
     exact tl (2 * j + 1) (.inl rfl) (fun hc => absurd l1 hc) fun u' hu' i w' hi0 hpi hw' => by
      rw [hu] at hu'; cases hu'
      rcases (zfs hi0).1 hpi with rfl | rfl
      · rw [hu] at hw'; cases hw'; exact .refl _
      · rw [hw] at hw'; cases hw'; exact huw
 · rw [zy2] at hge
   exact tl (2 * j + 1) (.inl rfl) (fun hc i hi0 hpi => z0m (by rcases (zfs hi0).1 hpi with rfl | rfl <;> omega)) fun u' hu' i w' hi0 hpi hw' => by
    rcases (zfs hi0).1 hpi with rfl | rfl
    · rw [hu'] at hw'; cases hw'; exact .refl _
    · have := (zyz.1 hw').1; omega
end
section
variable {Q : V → Mem → Prop}
theorem IsHeap.take (h : IsHeap xs) (j : Nat) : IsHeap (xs.take j) := fun i hi x y hx hy => by
 rw [z0l] at hx hy
 split at hx
 · split at hy
   · exact h i hi x y hx hy
   · cases hy
 · cases hx
theorem pull_eq {w : Tm} (hk : xs[k]? = some t) (hw : xs[n]? = some w) (hn : xs.length = n + 1) (hkn : k < n) : swp xs k n t w = (xs.take n).set k w ++ [t] := by
 have hl : ((xs.take n).set k w).length = n := by rw [zzz, zz1]; omega
 apply z1a
 intro i
 rw [zgc (by omega) (by omega) (by omega)]
 by_cases h1 : i = k
 · subst h1
   rw [if_pos rfl, zy7 (by omega), zz3 (by rw [zz1]; omega)]
 · rw [if_neg h1]
   by_cases h2 : i = n
   · subst h2
     rw [if_pos rfl, zzn (by omega), hl, Nat.sub_self]; rfl
   · rw [if_neg h2]
     by_cases h3 : i < n
     · rw [zy7 (by omega), zzp (Ne.symm h1), z0l, if_pos h3]
     · rw [z0m (by omega), z0m (by rw [zzl, hl]; simp; omega)]
theorem MAll.mex (h : MAll m ys) (k : Nat) : MEx m ys k := ⟨fun i x hx _ => h.pos i x hx, h.only, h.nd⟩
theorem pull_S (h : QInv xs m) (hk : xs[k]? = some t) (hn : xs.length ≤ 100000)
 (K : ∀ (ys : List Tm) (m' : List (MK × List U)), QInv ys m' → (t :: ys).Perm xs → Q (tV t) (qN ys m' most next)) :
 PRun Tryz.prog 112 (qM xs m most next) [.r 0 0, .i (k : Int)] Q := by
 have hkl := (zyz.1 hk).1
 obtain ⟨n, hln⟩ : ∃ n, xs.length = n + 1 := ⟨xs.length - 1, by omega⟩
 obtain ⟨w, hw⟩ : ∃ w, xs[n]? = some w := ⟨xs[n]'(by omega), zy0 (by omega)⟩
 have ew : zyu .i64 ((zyv (xs.map rT) : Int) - 1) = (n : Int) := by rw [zy2, hln, w64 (by omega) (by omega)]; omega
 refine S112 ⟨by omega, by rw [zy2]; omega, ?_⟩
 rw [zah (r := rT t) (by omega) (by simp [hk])]
 simp only [rT, ug0, ugs, zbs]
 rw [ew]
 refine ⟨by omega, by rw [zy2]; omega, ?_⟩
 rw [zah (r := rT w) (by omega) (by simp [hw])]
 simp only [rT, ug0, ugs, zbs]
 refine ⟨by omega, by rw [zy2]; omega, ?_⟩
 rw [zzm, zzm]
 have et : List.take n (xs.map rT) = (xs.take n).map rT := by rw [z03]
 rw [show (xs.map fun t => ([.n t.1, .n t.2.1, .n t.2.2] : List U)) = xs.map rT from rfl, et]
 refine cIf (fun hlt => ?_) fun hge => ?_
 · have hkn : k < n := by omega
   refine ⟨by omega, by rw [zy2, zz1]; omega, ?_⟩
   have es : zzb ((xs.take n).map rT) k [.n w.1, .n w.2.1, .n w.2.2] = ((xs.take n).set k w).map rT := by rw [z1b]
   rw [es]
   have hsw := pull_eq hk hw hln hkn
   have hp : (t :: (xs.take n).set k w).Perm xs := by
    refine (z1q (l₁ := [t]) (l₂ := (xs.take n).set k w)).trans ?_
    rw [← hsw]; exact zhf hk hw (by omega)
   have hl : ((xs.take n).set k w).length = n := by rw [zzz, zz1]; omega
   have hiz : Ids ((xs.take n).set k w) := by
    have : Ids (t :: (xs.take n).set k w) := zdv hp h.ids
    exact (z0q.1 this).2
   have hzk : ((xs.take n).set k w)[k]? = some w := zz3 (by rw [zz1]; omega)
   have hzi : ∀ i, i ≠ k → i < n → ((xs.take n).set k w)[i]? = xs[i]? := fun i h1 h2 => by rw [zzp (Ne.symm h1), z0l, if_pos h2]
   have hM : MEx (za1 (zdj m (.n t.2.1)) (.n w.2.1) [.n (k : Int)]) ((xs.take n).set k w) k := by
    refine ⟨fun i x hx hik => ?_, fun id r hr => ?_, zid _ _ (zlc _ h.all.nd)⟩
    · have hin : i < n := by have := (zyz.1 hx).1; omega
      rw [hzi i hik hin] at hx
      rw [za5, if_neg (fun e => by injection e with e; have := h.ids.inj hx hw e.symm; omega), zdq _ _ h.all.nd, if_neg (fun e => by injection e with e; exact hik (h.ids.inj hx hk e.symm))]
      exact h.all.pos i x hx
    · rw [za5] at hr
      by_cases e : (MK.n w.2.1) = .n id
      · injection e with e; exact ⟨w, zy4 hzk, e⟩
      · rw [if_neg e, zdq _ _ h.all.nd] at hr
        by_cases e2 : (MK.n t.2.1) = .n id
        · rw [if_pos e2] at hr; cases hr
        · rw [if_neg e2] at hr
          obtain ⟨x, hx, he⟩ := h.all.only id r hr
          rcases zy3.1 (hp.mem_iff.2 hx) with rfl | hx
          · exact absurd (by rw [he]) e2
          · exact ⟨x, hx, he⟩
   refine upQ_S hzk (by omega) hiz ((h.heap.take n).he k |>.set w) hM fun ys m' k' hperm hHE hU hkt hMA hdn => ?_
   show mO (zbl m' (.n w.2.1)) _ _
   rw [hMA.pos k' w hkt]
   simp only [mO, ug0, zbs]
   refine down_S hkt (by have := hperm.length_eq; omega) (zdv hperm hiz) hHE hU (hMA.mex k') fun zs m2 hperm2 hq => ?_
   exact K zs m2 hq (((hperm2.trans hperm).cons t).trans hp)
 · have hkn : k = n := by omega
   subst hkn
   rw [hk] at hw; cases hw
   have hp : (t :: xs.take k).Perm xs := by
    refine (z1q (l₁ := [t]) (l₂ := xs.take k)).trans ?_
    have : xs.take k ++ [t] = xs := by
     have := z0h k xs
     rw [z1e hkl, List.drop_of_length_le (by omega)] at this
     rw [zy0 hkl] at hk
     cases hk
     exact this
    rw [this]
   have hiz : Ids (t :: xs.take k) := zdv hp h.ids
   refine K (xs.take k) (zdj m (.n t.2.1)) ⟨h.heap.take k, ⟨fun i x hx => ?_, fun id r hr => ?_, zlc _ h.all.nd⟩, (z0q.1 hiz).2⟩ hp
   · rw [z0l] at hx
     split at hx
     · rw [zdq _ _ h.all.nd, if_neg (fun e => by injection e with e; have := h.ids.inj hx hk e.symm; omega)]
       exact h.all.pos i x hx
     · cases hx
   · rw [zdq _ _ h.all.nd] at hr
     by_cases e2 : (MK.n t.2.1) = .n id
     · rw [if_pos e2] at hr; cases hr
     · rw [if_neg e2] at hr
       obtain ⟨x, hx, he⟩ := h.all.only id r hr
       rcases zy3.1 (hp.mem_iff.2 hx) with rfl | hx
       · exact absurd (by rw [he]) e2
       · exact ⟨x, hx, he⟩
end
section
variable {Q : V → Mem → Prop}
theorem zwu {at0 what : Int} (h : QInv xs m) (ht : ∀ x ∈ xs, x.2.1 < next) (hn : xs.length ≤ 100000) (hx : 0 ≤ next ∧ next ≤ 1099511627776)
 (K : ∀ (ys : List Tm) (m' : List (MK × List U)), QInv ys m' → ys.Perm ((at0, next, what) :: xs) → Q (.i next) (qN ys m' most (next + 1))) :
 PRun Tryz.prog 345 (qM xs m most next) [.r 0 0, .i at0, .i what] Q := by
 refine S345 ?_
 rw [w64 (by omega) (by omega)]
 exact push_S (t := (at0, next, what)) h (fun x hx2 => by have := ht x hx2; show x.2.1 ≠ next; omega) hn fun ys m' hq hp => K ys m' hq hp
def qS (L : List Tm) (most next : Int) : Mem → Prop := fun M => ((L.length : Int) ≤ most ∧ most ≤ 1024 ∧ 1 ≤ next ∧ next ≤ 1099511627776 ∧ ∀ x ∈ L, x.2.1 < next) ∧ ∃ (xs : List Tm) (m : List (MK × List U)), QInv xs m ∧ xs.Perm L ∧ M = qM xs m most next
abbrev qO (L : List Tm) (most next : Int) : AB := .o (Ob.of (qS L most next))
theorem qS.perm {L L' : List Tm} {M : Mem} (h : qS L most next M) (p : L.Perm L') : qS L' most next M :=
 let ⟨⟨h1, h2, h3, h4, h5⟩, xs, m, q, hp, e⟩ := h
 ⟨⟨by rw [← p.length_eq]; exact h1, h2, h3, h4, fun x hx => h5 x (p.mem_iff.2 hx)⟩, xs, m, q, hp.trans p, e⟩
theorem qO.perm {L L' : List Tm} (p : L.Perm L') : Ob.of (qS L most next) = Ob.of (qS L' most next) := Ob.of_congr fun m => ⟨fun h => h.perm p, fun h => h.perm p.symm⟩
theorem insert_S {L : List Tm} {at0 what : Int}
 (k1 : at0 < 0 → Q (.t [.i 0, .i 1]) [qO L most next]) (k2 : (L.length : Int) ≥ most ∨ next = 1099511627776 → Q (.t [.i 0, .i 4]) [qO L most next])
 (k3 : 0 ≤ at0 → (L.length : Int) < most → next ≠ 1099511627776 → Q (.t [.i next, .i 0]) [qO ((at0, next, what) :: L) most (next + 1)]) :
 PRun Tryz.prog 295 [qO L most next] [.r 0 0, .i at0, .i what] Q := by
 refine PRun.pack (args := [.i at0, .i what]) rfl ?_
 rintro M ⟨⟨h1, h2, h3, h4, h5⟩, xs, m, hq, hp, rfl⟩
 have hl := hp.length_eq
 have same : qS L most next (qM xs m most next) := ⟨⟨h1, h2, h3, h4, h5⟩, xs, m, hq, hp, rfl⟩
 refine S295 (cIf (fun h => ⟨rfl, _, _, .refl _, same, k1 h⟩) fun ha => ?_)
 rw [zy2]
 refine cIf (fun h => ⟨rfl, _, _, .refl _, same, k2 (.inl (by omega))⟩) fun hb => cEq (fun h => ⟨rfl, _, _, .refl _, same, k2 (.inr h)⟩) fun hc => ?_
 refine zwu hq (fun x hx => h5 x (hp.mem_iff.1 hx)) (by omega) (by omega) fun ys m' hq' hp' => ?_
 refine ⟨rfl, _, qS ((at0, next, what) :: L) most (next + 1), zv9 _ _ _ _, ⟨⟨by simp only [zzg]; omega, h2, by omega, by omega, fun x hx => ?_⟩, ys, m', hq', hp'.trans (hp.cons _), rfl⟩, k3 (by omega) (by omega) hc⟩
 rcases zy3.1 hx with rfl | hx
 · show next < next + 1; omega
 · have := h5 x hx; omega
theorem QInv.find (h : QInv xs m) (id : Int) : (zbl m (.n id) = none ∧ ∀ x ∈ xs, x.2.1 ≠ id) ∨ ∃ (k : Nat) (t : Tm), xs[k]? = some t ∧ t.2.1 = id ∧ zbl m (.n id) = some [.n (k : Int)] := by
 cases hg : zbl m (.n id) with
 | none =>
   refine .inl ⟨rfl, fun x hx e => ?_⟩
   obtain ⟨k, hk⟩ := zz4.1 hx
   have := h.all.pos k x hk
   rw [e, hg] at this; cases this
 | some r =>
   obtain ⟨t, ht, e⟩ := h.all.only id r hg
   obtain ⟨k, hk⟩ := zz4.1 ht
   have := h.all.pos k t hk
   rw [e, hg] at this
   exact .inr ⟨k, t, hk, e, this⟩
theorem qS.less {L : List Tm} {m' : List (MK × List U)} (hL : (L.length : Int) ≤ most ∧ most ≤ 1024 ∧ 1 ≤ next ∧ next ≤ 1099511627776 ∧ ∀ x ∈ L, x.2.1 < next) (hp : xs.Perm L) (hq : QInv ys m') (hty : (t :: ys).Perm xs) : qS ys most next (qM ys m' most next) ∧ (t :: ys).Perm L := by
 have hpl := hty.trans hp
 have := hpl.length_eq
 simp only [zzg] at this
 exact ⟨⟨⟨by omega, hL.2.1, hL.2.2.1, hL.2.2.2.1, fun x hx => hL.2.2.2.2 x (hpl.mem_iff.1 (zzo _ hx))⟩, ys, m', hq, .refl _, rfl⟩, hpl⟩
theorem cancel_S {L : List Tm} {id : Int} (k1 : (∀ x ∈ L, x.2.1 ≠ id) → Q (.i 3) [qO L most next]) (k2 : ∀ (t : Tm) (L' : List Tm), (t :: L').Perm L → t.2.1 = id → Q (.i 0) [qO L' most next]) :
 PRun Tryz.prog 300 [qO L most next] [.r 0 0, .i id] Q := by
 refine PRun.pack (args := [.i id]) rfl ?_
 rintro M ⟨hL, xs, m, hq, hp, rfl⟩
 have hl := hp.length_eq
 refine S300 ?_
 rcases hq.find id with ⟨h1, h2⟩ | ⟨k, t, hk, e, h1⟩
 · rw [h1]
   exact ⟨rfl, _, _, .refl _, ⟨hL, xs, m, hq, hp, rfl⟩, k1 fun x hx => h2 x (hp.mem_iff.2 hx)⟩
 · rw [h1]
   simp only [mO, ug0, zbs]
   refine pull_S hq hk (by omega) fun ys m' hq' hty => ?_
   obtain ⟨h2, h3⟩ := qS.less hL hp hq' hty
   exact ⟨rfl, _, _, zv9 _ _ _ _, h2, k2 t ys h3 e⟩
theorem pop_S {L : List Tm} {now : Int} (k1 : (∀ x ∈ L, now < x.1) → Q (.t [.a [.i 0, .i 0, .i 0], .u (.b false)]) [qO L most next])
 (k2 : ∀ (t : Tm) (L' : List Tm), (t :: L').Perm L → t.1 ≤ now → (∀ x ∈ L, leT t x) → Q (.t [tV t, .u (.b true)]) [qO L' most next]) :
 PRun Tryz.prog 39 [qO L most next] [.r 0 0, .i now] Q := by
 refine PRun.pack (args := [.i now]) rfl ?_
 rintro M ⟨hL, xs, m, hq, hp, rfl⟩
 have hl := hp.length_eq
 have same : qS L most next (qM xs m most next) := ⟨hL, xs, m, hq, hp, rfl⟩
 refine S39 ?_
 rw [zy2]
 refine cEq (fun h => ?_) fun h => ?_
 · have : xs = [] := List.length_eq_zero_iff.1 (by omega)
   subst this
   exact ⟨rfl, _, _, .refl _, same, k1 fun x hx => by have := hp.mem_iff.2 hx; simp at this⟩
 · obtain ⟨t, ht⟩ : ∃ t, xs[0]? = some t := ⟨xs[0]'(by omega), zy0 (by omega)⟩
   have hfirst : ∀ x ∈ L, leT t x := fun x hx => by
    obtain ⟨i, hi⟩ := zz4.1 (hp.mem_iff.2 hx)
    exact hq.heap.first i t x ht hi
   refine ⟨by omega, by omega, ?_⟩
   rw [zah (r := rT t) (by omega) (by simp [ht])]
   simp only [rT, ug0, ugs, zbs]
   refine cIf (fun hgt => ⟨rfl, _, _, .refl _, same, k1 fun x hx => ?_⟩) fun hle => ?_
   · have := hfirst x hx; unfold leT at this; omega
   · refine pull_S (k := 0) hq ht (by omega) fun ys m' hq' hty => ?_
     obtain ⟨h2, h3⟩ := qS.less hL hp hq' hty
     exact ⟨rfl, _, _, zv9 _ _ _ _, h2, k2 t ys h3 (by omega) hfirst⟩
end
section
set_option maxRecDepth 100000
theorem zc6 : Tryz.prog.follows .mixedOrders = true := by kernel_rfl
theorem S199k0 {a f g h o p c : Int} {b d i j k l m n : List (List U)} (hh : bif decide (o < 1) then False else (2 : Int) ≠ 0 ∧ (bif decide (o > zyu .i64 (Int.tdiv 4 2)) then False else (bif decide (p < 0) then False else (bif decide (p ≥ 2) then False else zyu .i64 (zyu .i64 (2 * zyu .i64 (o - 1)) + p) = (0 : Int) ∧ (bif decide (c ≥ 1) then (bif !(decide (c ≤ 1099511627776)) then Q (.t [.u (.b false), .i 1]) (q20 a 3 4 f 5 6 g 7 8 h 9 10 e b d i j k l m n) else mO (zbl e (.n c)) (fun q => (dI .i64 (ug q 0) (fun u => Q (.t [.u (.b false), .i 9]) (q20 a 3 4 f 5 6 g 7 8 h 9 10 e b d i j k l m n)) : Prop)) (0 ≤ (0 : Int) ∧ (0 : Int) < (4 : Int) ∧ (bif decide ((zyv b : Int) < a) then PRun Tryz.prog 342 [.w 3 1 b] [.w 0, .i c] (post q12 [.row 3 1] (fun r v s => (PRun Tryz.prog 343 [.w 3 1 s, .w 3 1 [[.n c]]] [.w 0, .i r, .w 1] (post [.one (.ow 3 1)] [.X, .X] (fun t => (Q (.t [.u (.b (decide ((zyv b : Int) < a))), .i 0]) [.c [.w 1, .m 2], .cw 270 3 4 [.i a, .w 11, .w 4, .i f, .w 5, .w 6, .i g, .w 7, .w 8, .i h, .w 9, .w 10], .p .n 1 false (za1 e (.n c) [.n 0]), .x, .w 3 1 d, .w 3 1 i, .w 3 1 j, .w 3 1 k, .w 3 1 l, .w 3 1 m, .w 3 1 n, .w 3 1 t] : Prop))) : Prop))) else (bif a == 0 then Q (.t [.u (.b false), .i 10]) (q20 a 3 4 f 5 6 g 7 8 h 9 10 e b d i j k l m n) else (bif decide ((zyv d : Int) ≥ 8) then Q (.t [.u (.b false), .i 10]) (q20 a 3 4 f 5 6 g 7 8 h 9 10 e b d i j k l m n) else zan d [[.n c]] ∧ (Q (.t [.u (.b (decide ((zyv b : Int) < a))), .i 0]) [.c [.w 1, .m 2], .cw 270 3 4 [.i a, .w 3, .w 11, .i f, .w 5, .w 6, .i g, .w 7, .w 8, .i h, .w 9, .w 10], .p .n 1 false (za1 e (.n c) [.n 0]), .w 3 1 b, .x, .w 3 1 i, .w 3 1 j, .w 3 1 k, .w 3 1 l, .w 3 1 m, .w 3 1 n, .w 3 1 (d ++ [[.n c]])])))))) else Q (.t [.u (.b false), .i 1]) (q20 a 3 4 f 5 6 g 7 8 h 9 10 e b d i j k l m n)))))) : PRun Tryz.prog 199 (q20 a 3 4 f 5 6 g 7 8 h 9 10 e b d i j k l m n) [.r 0 0, .i o, .i p, .i c] Q :=
 zad zc6 Tryz.func199 (by kernel_rfl) (H := ⟨[], [], [166, 170, 292, 293], [342, 343], [(343, [.one (.ow 3 1)], [.X, .X])], false, 64, KN.no, false, (zge 292 (some 0))⟩) (n := 4) (by kernel_rfl) hh
theorem S211k0 {e f g h b : Int} {r v i j k l m n : List (List U)} (hh : mO (zbl c (.n b)) (fun p => (dI .i64 (ug p 0) (fun q => q = (0 : Int) ∧ (0 ≤ (0 : Int) ∧ (0 : Int) < (4 : Int) ∧ (PRun Tryz.prog 303 [.w 3 1 r] [.w 0, .i b] (post [.B] [.row 3 1] (fun s t => (PRun Tryz.prog 304 [.w 3 1 t, .c [.i b]] [.w 0, .f 302 [] [.r 1 0]] (post [.one (.ow 3 1)] q13 (fun d u => (PRun Tryz.prog 304 [.w 3 1 v, .c [.i u]] [.w 0, .f 302 [] [.r 1 0]] (post [.one (.ow 3 1)] q13 (fun a γ => (bif !s then Q (.t [.i 0, .i 0]) (q35 e 11 12 f 5 6 g 7 8 h 9 10 (zdj c (.n b)) i j k l m n d a) else (bif (zyv a : Int) == 0 then Q (.t [.i 0, .i 0]) (q35 e 11 12 f 5 6 g 7 8 h 9 10 (zdj c (.n b)) i j k l m n d a) else 0 ≤ (0 : Int) ∧ (0 : Int) < (zyv a : Int) ∧ (elL a 0 (fun w => dI .i64 (ug w 0) (fun o => 0 ≤ (1 : Int) ∧ (1 : Int) ≤ (zyv a : Int) ∧ (zyv a : Int) ≤ (zyv a : Int) ∧ (PRun Tryz.prog 165 [] [.l 1 (List.drop 1 (List.take (zyv a) a))] (post [.one (.ow 3 1)] [] (fun x => (PRun Tryz.prog 342 [.w 3 1 d] [.w 0, .i o] (post q12 [.row 3 1] (fun y δ α => (PRun Tryz.prog 343 [.w 3 1 α, .w 3 1 [[.n o]]] [.w 0, .i y, .w 1] (post [.one (.ow 3 1)] [.X, .X] (fun β => (Q (.t [.i o, .i 0]) (q35 e 11 12 f 5 6 g 7 8 h 9 10 (zdj c (.n b)) i j k l m n β x) : Prop))) : Prop))) : Prop)))))))) : Prop))) : Prop))) : Prop)))))) : Prop)) (False)) : PRun Tryz.prog 211 (q20 e 3 4 f 5 6 g 7 8 h 9 10 c r v i j k l m n) [.r 0 0, .i b] Q :=
 zad zc6 Tryz.func211 (by kernel_rfl) (H := ⟨[], [], [170, 293, 301], [303, 304, 342, 343], [(165, [.one (.ow 3 1)], []), (304, [.one (.ow 3 1)], [.X, .c [.i .i64]]), (343, [.one (.ow 3 1)], [.X, .X])], false, 64, KN.no, false, (zge 301 (some 0))⟩) (n := 4) (by kernel_rfl) hh
theorem S213k0 {c e f g a b : Int} {d i j k l m n : List (List U)} (hh : bif decide (a < 1) then False else (2 : Int) ≠ 0 ∧ (bif decide (a > zyu .i64 (Int.tdiv 4 2)) then False else (bif decide (b < 0) then False else (bif decide (b ≥ 2) then False else zyu .i64 (zyu .i64 (2 * zyu .i64 (a - 1)) + b) = (0 : Int) ∧ (0 ≤ (0 : Int) ∧ (0 : Int) < (4 : Int) ∧ (0 ≤ (0 : Int) ∧ (0 : Int) < (4 : Int) ∧ (Q (.t [.i (zyu .i64 (c - (zyv d : Int))), .i 0]) (q20 c 3 4 e 5 6 f 7 8 g 9 10 h d i j k l m n o)))))))) : PRun Tryz.prog 213 (q20 c 3 4 e 5 6 f 7 8 g 9 10 h d i j k l m n o) [.r 0 0, .i a, .i b] Q :=
 zad zc6 Tryz.func213 (by kernel_rfl) (H := ⟨[], [], [170, 292], [], [], false, 64, KN.no, false, (zge 292 (some 0))⟩) (n := 4) (by kernel_rfl) hh
theorem S199k1 {f a g h o p c : Int} {i j b d k l m n : List (List U)} (hh : bif decide (o < 1) then False else (2 : Int) ≠ 0 ∧ (bif decide (o > zyu .i64 (Int.tdiv 4 2)) then False else (bif decide (p < 0) then False else (bif decide (p ≥ 2) then False else zyu .i64 (zyu .i64 (2 * zyu .i64 (o - 1)) + p) = (1 : Int) ∧ (bif decide (c ≥ 1) then (bif !(decide (c ≤ 1099511627776)) then Q (.t [.u (.b false), .i 1]) (q20 f 3 4 a 5 6 g 7 8 h 9 10 e i j b d k l m n) else mO (zbl e (.n c)) (fun q => (dI .i64 (ug q 0) (fun u => Q (.t [.u (.b false), .i 9]) (q20 f 3 4 a 5 6 g 7 8 h 9 10 e i j b d k l m n)) : Prop)) (0 ≤ (1 : Int) ∧ (1 : Int) < (4 : Int) ∧ (bif decide ((zyv b : Int) < a) then PRun Tryz.prog 342 [.w 3 1 b] [.w 0, .i c] (post q12 [.row 3 1] (fun r v s => (PRun Tryz.prog 343 [.w 3 1 s, .w 3 1 [[.n c]]] [.w 0, .i r, .w 1] (post [.one (.ow 3 1)] [.X, .X] (fun t => (Q (.t [.u (.b (decide ((zyv b : Int) < a))), .i 0]) [.c [.w 1, .m 2], .cw 270 3 4 [.i f, .w 3, .w 4, .i a, .w 11, .w 6, .i g, .w 7, .w 8, .i h, .w 9, .w 10], .p .n 1 false (za1 e (.n c) [.n 1]), .w 3 1 i, .w 3 1 j, .x, .w 3 1 d, .w 3 1 k, .w 3 1 l, .w 3 1 m, .w 3 1 n, .w 3 1 t] : Prop))) : Prop))) else (bif a == 0 then Q (.t [.u (.b false), .i 10]) (q20 f 3 4 a 5 6 g 7 8 h 9 10 e i j b d k l m n) else (bif decide ((zyv d : Int) ≥ 8) then Q (.t [.u (.b false), .i 10]) (q20 f 3 4 a 5 6 g 7 8 h 9 10 e i j b d k l m n) else zan d [[.n c]] ∧ (Q (.t [.u (.b (decide ((zyv b : Int) < a))), .i 0]) [.c [.w 1, .m 2], .cw 270 3 4 [.i f, .w 3, .w 4, .i a, .w 5, .w 11, .i g, .w 7, .w 8, .i h, .w 9, .w 10], .p .n 1 false (za1 e (.n c) [.n 1]), .w 3 1 i, .w 3 1 j, .w 3 1 b, .x, .w 3 1 k, .w 3 1 l, .w 3 1 m, .w 3 1 n, .w 3 1 (d ++ [[.n c]])])))))) else Q (.t [.u (.b false), .i 1]) (q20 f 3 4 a 5 6 g 7 8 h 9 10 e i j b d k l m n)))))) : PRun Tryz.prog 199 (q20 f 3 4 a 5 6 g 7 8 h 9 10 e i j b d k l m n) [.r 0 0, .i o, .i p, .i c] Q :=
 zad zc6 Tryz.func199 (by kernel_rfl) (H := ⟨[], [], [166, 170, 292, 293], [342, 343], [(343, [.one (.ow 3 1)], [.X, .X])], false, 64, KN.no, false, (zge 292 (some 1))⟩) (n := 4) (by kernel_rfl) hh
theorem S211k1 {e f g h b : Int} {i j r v k l m n : List (List U)} (hh : mO (zbl c (.n b)) (fun p => (dI .i64 (ug p 0) (fun q => q = (1 : Int) ∧ (0 ≤ (1 : Int) ∧ (1 : Int) < (4 : Int) ∧ (PRun Tryz.prog 303 [.w 3 1 r] [.w 0, .i b] (post [.B] [.row 3 1] (fun s t => (PRun Tryz.prog 304 [.w 3 1 t, .c [.i b]] [.w 0, .f 302 [] [.r 1 0]] (post [.one (.ow 3 1)] q13 (fun d u => (PRun Tryz.prog 304 [.w 3 1 v, .c [.i u]] [.w 0, .f 302 [] [.r 1 0]] (post [.one (.ow 3 1)] q13 (fun a γ => (bif !s then Q (.t [.i 0, .i 0]) (q36 e 3 4 f 11 12 g 7 8 h 9 10 (zdj c (.n b)) i j k l m n d a) else (bif (zyv a : Int) == 0 then Q (.t [.i 0, .i 0]) (q36 e 3 4 f 11 12 g 7 8 h 9 10 (zdj c (.n b)) i j k l m n d a) else 0 ≤ (0 : Int) ∧ (0 : Int) < (zyv a : Int) ∧ (elL a 0 (fun w => dI .i64 (ug w 0) (fun o => 0 ≤ (1 : Int) ∧ (1 : Int) ≤ (zyv a : Int) ∧ (zyv a : Int) ≤ (zyv a : Int) ∧ (PRun Tryz.prog 165 [] [.l 1 (List.drop 1 (List.take (zyv a) a))] (post [.one (.ow 3 1)] [] (fun x => (PRun Tryz.prog 342 [.w 3 1 d] [.w 0, .i o] (post q12 [.row 3 1] (fun y δ α => (PRun Tryz.prog 343 [.w 3 1 α, .w 3 1 [[.n o]]] [.w 0, .i y, .w 1] (post [.one (.ow 3 1)] [.X, .X] (fun β => (Q (.t [.i o, .i 0]) (q36 e 3 4 f 11 12 g 7 8 h 9 10 (zdj c (.n b)) i j k l m n β x) : Prop))) : Prop))) : Prop)))))))) : Prop))) : Prop))) : Prop)))))) : Prop)) (False)) : PRun Tryz.prog 211 (q20 e 3 4 f 5 6 g 7 8 h 9 10 c i j r v k l m n) [.r 0 0, .i b] Q :=
 zad zc6 Tryz.func211 (by kernel_rfl) (H := ⟨[], [], [170, 293, 301], [303, 304, 342, 343], [(165, [.one (.ow 3 1)], []), (304, [.one (.ow 3 1)], [.X, .c [.i .i64]]), (343, [.one (.ow 3 1)], [.X, .X])], false, 64, KN.no, false, (zge 301 (some 1))⟩) (n := 4) (by kernel_rfl) hh
theorem S213k1 {e c f g a b : Int} {i j d k l m n : List (List U)} (hh : bif decide (a < 1) then False else (2 : Int) ≠ 0 ∧ (bif decide (a > zyu .i64 (Int.tdiv 4 2)) then False else (bif decide (b < 0) then False else (bif decide (b ≥ 2) then False else zyu .i64 (zyu .i64 (2 * zyu .i64 (a - 1)) + b) = (1 : Int) ∧ (0 ≤ (1 : Int) ∧ (1 : Int) < (4 : Int) ∧ (0 ≤ (1 : Int) ∧ (1 : Int) < (4 : Int) ∧ (Q (.t [.i (zyu .i64 (c - (zyv d : Int))), .i 0]) (q20 e 3 4 c 5 6 f 7 8 g 9 10 h i j d k l m n o)))))))) : PRun Tryz.prog 213 (q20 e 3 4 c 5 6 f 7 8 g 9 10 h i j d k l m n o) [.r 0 0, .i a, .i b] Q :=
 zad zc6 Tryz.func213 (by kernel_rfl) (H := ⟨[], [], [170, 292], [], [], false, 64, KN.no, false, (zge 292 (some 1))⟩) (n := 4) (by kernel_rfl) hh
theorem S199k2 {f g a h o p c : Int} {i j k l b d m n : List (List U)} (hh : bif decide (o < 1) then False else (2 : Int) ≠ 0 ∧ (bif decide (o > zyu .i64 (Int.tdiv 4 2)) then False else (bif decide (p < 0) then False else (bif decide (p ≥ 2) then False else zyu .i64 (zyu .i64 (2 * zyu .i64 (o - 1)) + p) = (2 : Int) ∧ (bif decide (c ≥ 1) then (bif !(decide (c ≤ 1099511627776)) then Q (.t [.u (.b false), .i 1]) (q20 f 3 4 g 5 6 a 7 8 h 9 10 e i j k l b d m n) else mO (zbl e (.n c)) (fun q => (dI .i64 (ug q 0) (fun u => Q (.t [.u (.b false), .i 9]) (q20 f 3 4 g 5 6 a 7 8 h 9 10 e i j k l b d m n)) : Prop)) (0 ≤ (2 : Int) ∧ (2 : Int) < (4 : Int) ∧ (bif decide ((zyv b : Int) < a) then PRun Tryz.prog 342 [.w 3 1 b] [.w 0, .i c] (post q12 [.row 3 1] (fun r v s => (PRun Tryz.prog 343 [.w 3 1 s, .w 3 1 [[.n c]]] [.w 0, .i r, .w 1] (post [.one (.ow 3 1)] [.X, .X] (fun t => (Q (.t [.u (.b (decide ((zyv b : Int) < a))), .i 0]) [.c [.w 1, .m 2], .cw 270 3 4 [.i f, .w 3, .w 4, .i g, .w 5, .w 6, .i a, .w 11, .w 8, .i h, .w 9, .w 10], .p .n 1 false (za1 e (.n c) [.n 2]), .w 3 1 i, .w 3 1 j, .w 3 1 k, .w 3 1 l, .x, .w 3 1 d, .w 3 1 m, .w 3 1 n, .w 3 1 t] : Prop))) : Prop))) else (bif a == 0 then Q (.t [.u (.b false), .i 10]) (q20 f 3 4 g 5 6 a 7 8 h 9 10 e i j k l b d m n) else (bif decide ((zyv d : Int) ≥ 8) then Q (.t [.u (.b false), .i 10]) (q20 f 3 4 g 5 6 a 7 8 h 9 10 e i j k l b d m n) else zan d [[.n c]] ∧ (Q (.t [.u (.b (decide ((zyv b : Int) < a))), .i 0]) [.c [.w 1, .m 2], .cw 270 3 4 [.i f, .w 3, .w 4, .i g, .w 5, .w 6, .i a, .w 7, .w 11, .i h, .w 9, .w 10], .p .n 1 false (za1 e (.n c) [.n 2]), .w 3 1 i, .w 3 1 j, .w 3 1 k, .w 3 1 l, .w 3 1 b, .x, .w 3 1 m, .w 3 1 n, .w 3 1 (d ++ [[.n c]])])))))) else Q (.t [.u (.b false), .i 1]) (q20 f 3 4 g 5 6 a 7 8 h 9 10 e i j k l b d m n)))))) : PRun Tryz.prog 199 (q20 f 3 4 g 5 6 a 7 8 h 9 10 e i j k l b d m n) [.r 0 0, .i o, .i p, .i c] Q :=
 zad zc6 Tryz.func199 (by kernel_rfl) (H := ⟨[], [], [166, 170, 292, 293], [342, 343], [(343, [.one (.ow 3 1)], [.X, .X])], false, 64, KN.no, false, (zge 292 (some 2))⟩) (n := 4) (by kernel_rfl) hh
theorem S211k2 {e f g h b : Int} {i j k l r v m n : List (List U)} (hh : mO (zbl c (.n b)) (fun p => (dI .i64 (ug p 0) (fun q => q = (2 : Int) ∧ (0 ≤ (2 : Int) ∧ (2 : Int) < (4 : Int) ∧ (PRun Tryz.prog 303 [.w 3 1 r] [.w 0, .i b] (post [.B] [.row 3 1] (fun s t => (PRun Tryz.prog 304 [.w 3 1 t, .c [.i b]] [.w 0, .f 302 [] [.r 1 0]] (post [.one (.ow 3 1)] q13 (fun d u => (PRun Tryz.prog 304 [.w 3 1 v, .c [.i u]] [.w 0, .f 302 [] [.r 1 0]] (post [.one (.ow 3 1)] q13 (fun a γ => (bif !s then Q (.t [.i 0, .i 0]) (q37 e 3 4 f 5 6 g 11 12 h 9 10 (zdj c (.n b)) i j k l m n d a) else (bif (zyv a : Int) == 0 then Q (.t [.i 0, .i 0]) (q37 e 3 4 f 5 6 g 11 12 h 9 10 (zdj c (.n b)) i j k l m n d a) else 0 ≤ (0 : Int) ∧ (0 : Int) < (zyv a : Int) ∧ (elL a 0 (fun w => dI .i64 (ug w 0) (fun o => 0 ≤ (1 : Int) ∧ (1 : Int) ≤ (zyv a : Int) ∧ (zyv a : Int) ≤ (zyv a : Int) ∧ (PRun Tryz.prog 165 [] [.l 1 (List.drop 1 (List.take (zyv a) a))] (post [.one (.ow 3 1)] [] (fun x => (PRun Tryz.prog 342 [.w 3 1 d] [.w 0, .i o] (post q12 [.row 3 1] (fun y δ α => (PRun Tryz.prog 343 [.w 3 1 α, .w 3 1 [[.n o]]] [.w 0, .i y, .w 1] (post [.one (.ow 3 1)] [.X, .X] (fun β => (Q (.t [.i o, .i 0]) (q37 e 3 4 f 5 6 g 11 12 h 9 10 (zdj c (.n b)) i j k l m n β x) : Prop))) : Prop))) : Prop)))))))) : Prop))) : Prop))) : Prop)))))) : Prop)) (False)) : PRun Tryz.prog 211 (q20 e 3 4 f 5 6 g 7 8 h 9 10 c i j k l r v m n) [.r 0 0, .i b] Q :=
 zad zc6 Tryz.func211 (by kernel_rfl) (H := ⟨[], [], [170, 293, 301], [303, 304, 342, 343], [(165, [.one (.ow 3 1)], []), (304, [.one (.ow 3 1)], [.X, .c [.i .i64]]), (343, [.one (.ow 3 1)], [.X, .X])], false, 64, KN.no, false, (zge 301 (some 2))⟩) (n := 4) (by kernel_rfl) hh
theorem S213k2 {e f c g a b : Int} {i j k l d m n : List (List U)} (hh : bif decide (a < 1) then False else (2 : Int) ≠ 0 ∧ (bif decide (a > zyu .i64 (Int.tdiv 4 2)) then False else (bif decide (b < 0) then False else (bif decide (b ≥ 2) then False else zyu .i64 (zyu .i64 (2 * zyu .i64 (a - 1)) + b) = (2 : Int) ∧ (0 ≤ (2 : Int) ∧ (2 : Int) < (4 : Int) ∧ (0 ≤ (2 : Int) ∧ (2 : Int) < (4 : Int) ∧ (Q (.t [.i (zyu .i64 (c - (zyv d : Int))), .i 0]) (q20 e 3 4 f 5 6 c 7 8 g 9 10 h i j k l d m n o)))))))) : PRun Tryz.prog 213 (q20 e 3 4 f 5 6 c 7 8 g 9 10 h i j k l d m n o) [.r 0 0, .i a, .i b] Q :=
 zad zc6 Tryz.func213 (by kernel_rfl) (H := ⟨[], [], [170, 292], [], [], false, 64, KN.no, false, (zge 292 (some 2))⟩) (n := 4) (by kernel_rfl) hh
theorem S199k3 {f g h a o p c : Int} {i j k l m n b d : List (List U)} (hh : bif decide (o < 1) then False else (2 : Int) ≠ 0 ∧ (bif decide (o > zyu .i64 (Int.tdiv 4 2)) then False else (bif decide (p < 0) then False else (bif decide (p ≥ 2) then False else zyu .i64 (zyu .i64 (2 * zyu .i64 (o - 1)) + p) = (3 : Int) ∧ (bif decide (c ≥ 1) then (bif !(decide (c ≤ 1099511627776)) then Q (.t [.u (.b false), .i 1]) (q20 f 3 4 g 5 6 h 7 8 a 9 10 e i j k l m n b d) else mO (zbl e (.n c)) (fun q => (dI .i64 (ug q 0) (fun u => Q (.t [.u (.b false), .i 9]) (q20 f 3 4 g 5 6 h 7 8 a 9 10 e i j k l m n b d)) : Prop)) (0 ≤ (3 : Int) ∧ (3 : Int) < (4 : Int) ∧ (bif decide ((zyv b : Int) < a) then PRun Tryz.prog 342 [.w 3 1 b] [.w 0, .i c] (post q12 [.row 3 1] (fun r v s => (PRun Tryz.prog 343 [.w 3 1 s, .w 3 1 [[.n c]]] [.w 0, .i r, .w 1] (post [.one (.ow 3 1)] [.X, .X] (fun t => (Q (.t [.u (.b (decide ((zyv b : Int) < a))), .i 0]) [.c [.w 1, .m 2], .cw 270 3 4 [.i f, .w 3, .w 4, .i g, .w 5, .w 6, .i h, .w 7, .w 8, .i a, .w 11, .w 10], .p .n 1 false (za1 e (.n c) [.n 3]), .w 3 1 i, .w 3 1 j, .w 3 1 k, .w 3 1 l, .w 3 1 m, .w 3 1 n, .x, .w 3 1 d, .w 3 1 t] : Prop))) : Prop))) else (bif a == 0 then Q (.t [.u (.b false), .i 10]) (q20 f 3 4 g 5 6 h 7 8 a 9 10 e i j k l m n b d) else (bif decide ((zyv d : Int) ≥ 8) then Q (.t [.u (.b false), .i 10]) (q20 f 3 4 g 5 6 h 7 8 a 9 10 e i j k l m n b d) else zan d [[.n c]] ∧ (Q (.t [.u (.b (decide ((zyv b : Int) < a))), .i 0]) [.c [.w 1, .m 2], .cw 270 3 4 [.i f, .w 3, .w 4, .i g, .w 5, .w 6, .i h, .w 7, .w 8, .i a, .w 9, .w 11], .p .n 1 false (za1 e (.n c) [.n 3]), .w 3 1 i, .w 3 1 j, .w 3 1 k, .w 3 1 l, .w 3 1 m, .w 3 1 n, .w 3 1 b, .x, .w 3 1 (d ++ [[.n c]])])))))) else Q (.t [.u (.b false), .i 1]) (q20 f 3 4 g 5 6 h 7 8 a 9 10 e i j k l m n b d)))))) : PRun Tryz.prog 199 (q20 f 3 4 g 5 6 h 7 8 a 9 10 e i j k l m n b d) [.r 0 0, .i o, .i p, .i c] Q :=
 zad zc6 Tryz.func199 (by kernel_rfl) (H := ⟨[], [], [166, 170, 292, 293], [342, 343], [(343, [.one (.ow 3 1)], [.X, .X])], false, 64, KN.no, false, (zge 292 (some 3))⟩) (n := 4) (by kernel_rfl) hh
theorem S211k3 {e f g h b : Int} {i j k l m n r v : List (List U)} (hh : mO (zbl c (.n b)) (fun p => (dI .i64 (ug p 0) (fun q => q = (3 : Int) ∧ (0 ≤ (3 : Int) ∧ (3 : Int) < (4 : Int) ∧ (PRun Tryz.prog 303 [.w 3 1 r] [.w 0, .i b] (post [.B] [.row 3 1] (fun s t => (PRun Tryz.prog 304 [.w 3 1 t, .c [.i b]] [.w 0, .f 302 [] [.r 1 0]] (post [.one (.ow 3 1)] q13 (fun d u => (PRun Tryz.prog 304 [.w 3 1 v, .c [.i u]] [.w 0, .f 302 [] [.r 1 0]] (post [.one (.ow 3 1)] q13 (fun a γ => (bif !s then Q (.t [.i 0, .i 0]) (q38 e 3 4 f 5 6 g 7 8 h 11 12 (zdj c (.n b)) i j k l m n d a) else (bif (zyv a : Int) == 0 then Q (.t [.i 0, .i 0]) (q38 e 3 4 f 5 6 g 7 8 h 11 12 (zdj c (.n b)) i j k l m n d a) else 0 ≤ (0 : Int) ∧ (0 : Int) < (zyv a : Int) ∧ (elL a 0 (fun w => dI .i64 (ug w 0) (fun o => 0 ≤ (1 : Int) ∧ (1 : Int) ≤ (zyv a : Int) ∧ (zyv a : Int) ≤ (zyv a : Int) ∧ (PRun Tryz.prog 165 [] [.l 1 (List.drop 1 (List.take (zyv a) a))] (post [.one (.ow 3 1)] [] (fun x => (PRun Tryz.prog 342 [.w 3 1 d] [.w 0, .i o] (post q12 [.row 3 1] (fun y δ α => (PRun Tryz.prog 343 [.w 3 1 α, .w 3 1 [[.n o]]] [.w 0, .i y, .w 1] (post [.one (.ow 3 1)] [.X, .X] (fun β => (Q (.t [.i o, .i 0]) (q38 e 3 4 f 5 6 g 7 8 h 11 12 (zdj c (.n b)) i j k l m n β x) : Prop))) : Prop))) : Prop)))))))) : Prop))) : Prop))) : Prop)))))) : Prop)) (False)) : PRun Tryz.prog 211 (q20 e 3 4 f 5 6 g 7 8 h 9 10 c i j k l m n r v) [.r 0 0, .i b] Q :=
 zad zc6 Tryz.func211 (by kernel_rfl) (H := ⟨[], [], [170, 293, 301], [303, 304, 342, 343], [(165, [.one (.ow 3 1)], []), (304, [.one (.ow 3 1)], [.X, .c [.i .i64]]), (343, [.one (.ow 3 1)], [.X, .X])], false, 64, KN.no, false, (zge 301 (some 3))⟩) (n := 4) (by kernel_rfl) hh
theorem S213k3 {e f g c a b : Int} {i j k l m n d : List (List U)} (hh : bif decide (a < 1) then False else (2 : Int) ≠ 0 ∧ (bif decide (a > zyu .i64 (Int.tdiv 4 2)) then False else (bif decide (b < 0) then False else (bif decide (b ≥ 2) then False else zyu .i64 (zyu .i64 (2 * zyu .i64 (a - 1)) + b) = (3 : Int) ∧ (0 ≤ (3 : Int) ∧ (3 : Int) < (4 : Int) ∧ (0 ≤ (3 : Int) ∧ (3 : Int) < (4 : Int) ∧ (Q (.t [.i (zyu .i64 (c - (zyv d : Int))), .i 0]) (q20 e 3 4 f 5 6 g 7 8 c 9 10 h i j k l m n d o)))))))) : PRun Tryz.prog 213 (q20 e 3 4 f 5 6 g 7 8 c 9 10 h i j k l m n d o) [.r 0 0, .i a, .i b] Q :=
 zad zc6 Tryz.func213 (by kernel_rfl) (H := ⟨[], [], [170, 292], [], [], false, 64, KN.no, false, (zge 292 (some 3))⟩) (n := 4) (by kernel_rfl) hh
theorem S211no {a : List (MK × List U)} {d e f g b : Int} {h i j k l m n : List (List U)} (hh : mO (zbl a (.n b)) (fun c => (dI .i64 (ug c 0) (fun p => False) : Prop)) (Q (.t [.i 0, .i 3]) (q20 d 3 4 e 5 6 f 7 8 g 9 10 a h i j k l m n o))) : PRun Tryz.prog 211 (q20 d 3 4 e 5 6 f 7 8 g 9 10 a h i j k l m n o) [.r 0 0, .i b] Q :=
 zad zc6 Tryz.func211 (by kernel_rfl) (H := ⟨[], [], [170, 301], [], [(165, [.one (.ow 3 1)], []), (304, [.one (.ow 3 1)], [.X, .c [.i .i64]]), (343, [.one (.ow 3 1)], [.X, .X])], false, 64, KN.no, false, (zge 301 none)⟩) (n := 4) (by kernel_rfl) hh
theorem S73 {δ : List (MK × List U)} {y α β γ : Int} {i k m q u w : List (List U)} (hh : 0 ≤ (0 : Int) ∧ (0 : Int) < (4 : Int) ∧ (PRun Tryz.prog 165 [.w 3 1 i] [.w 0] (post [.L 1] [.row 3 1] (fun a j => (PRun Tryz.prog 165 [.w 3 1 k] [.w 0] (post [.L 1] [.row 3 1] (fun b l => (zan [] [[.l 1 a, .l 1 b]] ∧ (0 ≤ (1 : Int) ∧ (1 : Int) < (4 : Int) ∧ (PRun Tryz.prog 165 [.w 3 1 m] [.w 0] (post [.L 1] [.row 3 1] (fun c n => (PRun Tryz.prog 165 [.w 3 1 o] [.w 0] (post [.L 1] [.row 3 1] (fun d p => (zan [[.l 1 a, .l 1 b]] [[.l 1 c, .l 1 d]] ∧ (0 ≤ (2 : Int) ∧ (2 : Int) < (4 : Int) ∧ (PRun Tryz.prog 165 [.w 3 1 q] [.w 0] (post [.L 1] [.row 3 1] (fun e r => (PRun Tryz.prog 165 [.w 3 1 s] [.w 0] (post [.L 1] [.row 3 1] (fun f t => (zan [[.l 1 a, .l 1 b], [.l 1 c, .l 1 d]] [[.l 1 e, .l 1 f]] ∧ (0 ≤ (3 : Int) ∧ (3 : Int) < (4 : Int) ∧ (PRun Tryz.prog 165 [.w 3 1 u] [.w 0] (post [.L 1] [.row 3 1] (fun g v => (PRun Tryz.prog 165 [.w 3 1 w] [.w 0] (post [.L 1] [.row 3 1] (fun h x => (zan [[.l 1 a, .l 1 b], [.l 1 c, .l 1 d], [.l 1 e, .l 1 f]] [[.l 1 g, .l 1 h]] ∧ (Q (.l 2 [[.l 1 a, .l 1 b], [.l 1 c, .l 1 d], [.l 1 e, .l 1 f], [.l 1 g, .l 1 h]]) (q20 y 3 4 α 5 6 β 7 8 γ 9 10 δ j l n p r t v x)) : Prop))) : Prop))))) : Prop))) : Prop))))) : Prop))) : Prop))))) : Prop))) : Prop))))) : PRun Tryz.prog 73 (q20 y 3 4 α 5 6 β 7 8 γ 9 10 δ i k m o q s u w) [.r 0 0] Q :=
 zad zc6 Tryz.func73 (by kernel_rfl) (H := ⟨[], [], [170], [165], [(165, [.L 1], [.row 3 1])], false, 64, KN.no, false, SP.no⟩) (n := 3) (by kernel_rfl) hh
end
section
set_option maxRecDepth 100000
theorem ztu : Tryz.prog.follows .mixedOrders = true := by kernel_rfl
theorem S172 {b c : Int} (hh : PRun Tryz.prog 277 [] [.l 5 a, q16 c 0 0 0, .f 278 [] []] (post q12 [] (fun d e => (bif !e then Q (.t [.i 0, .i 3]) [.c [.l 5 a, .i b]] else elL a d (fun f => dI .i64 (ug f 4) (fun g => Q (.t [.i g, .i 0]) [.c [.l 5 a, .i b]])) : Prop)))) : PRun Tryz.prog 172 [.c [.l 5 a, .i b]] [.r 0 0, .i c] Q :=
 zad ztu Tryz.func172 (by kernel_rfl) (H := ⟨[], [], [98, 171, 175, 264], [], [], false, 64, KN.no, false, SP.no⟩) (n := 5) (by kernel_rfl) hh
theorem S74 {d c : Int} (hh : bif decide (c < 0) then Q (.i 1) [.c [.l 5 a, .i d]] else (bif decide (c > 1099511627776) then Q (.i 1) [.c [.l 5 a, .i d]] else PRun Tryz.prog 277 [] [.l 5 a, q16 c 0 0 0, .f 278 [] []] (post q12 [] (fun e f => (bif !f then PRun Tryz.prog 277 [] [.l 5 a, q16 c 0 0 0, .f 278 [] []] (post q12 [] (fun b g => (0 ≤ b ∧ (b ≤ (zyv a : Int) ∧ (zyv a : Int) ≤ (zyv a : Int) ∧ (bif g then 0 ≤ (1 : Int) ∧ ((1 : Int) ≤ (zyv (List.drop (zyx b) (List.take (zyv a) a)) : Int) ∧ (zyv (List.drop (zyx b) (List.take (zyv a) a)) : Int) ≤ (zyv (List.drop (zyx b) (List.take (zyv a) a)) : Int) ∧ ((0 : Int) ≤ b ∧ b ≤ (zyv a : Int) ∧ b = b ∧ (zan (List.take (zyx b) a) [(q19 c 0 0 0 0)] ∧ (zan (List.take (zyx b) a ++ [(q19 c 0 0 0 0)]) (List.drop 1 (List.take (zyv (List.drop (zyx b) (List.take (zyv a) a))) (List.drop (zyx b) (List.take (zyv a) a)))) ∧ (Q (.i 0) (q34 d (List.take (zyx b) a ++ [(q19 c 0 0 0 0)] ++ List.drop 1 (List.take (zyv (List.drop (zyx b) (List.take (zyv a) a))) (List.drop (zyx b) (List.take (zyv a) a)))))))))) else (0 : Int) ≤ b ∧ b ≤ (zyv a : Int) ∧ b = b ∧ (zan (List.take (zyx b) a) [(q19 c 0 0 0 0)] ∧ (zan (List.take (zyx b) a ++ [(q19 c 0 0 0 0)]) (List.drop (zyx b) (List.take (zyv a) a)) ∧ (Q (.i 0) (q34 d (List.take (zyx b) a ++ [(q19 c 0 0 0 0)] ++ List.drop (zyx b) (List.take (zyv a) a)))))))) : Prop))) else elL a e (fun h => dI .i64 (ug h 4) (fun i => Q (.i 9) [.c [.l 5 a, .i d]])) : Prop))))) : PRun Tryz.prog 74 [.c [.l 5 a, .i d]] [.r 0 0, .i c] Q :=
 zad ztu Tryz.func74 (by kernel_rfl) (H := ⟨[], [], [77, 98, 171, 175, 264], [], [], false, 64, KN.no, false, SP.no⟩) (n := 5) (by kernel_rfl) hh
theorem S174 {g c d : Int} (hh : ∀ f : Int → Prop, (∀ e : Int, (PRun Tryz.prog 277 [] [.l 5 a, q16 c 0 0 0, .f 278 [] []] (post q12 [] (fun b h => (0 ≤ b ∧ (b ≤ (zyv a : Int) ∧ (zyv a : Int) ≤ (zyv a : Int) ∧ (bif h then 0 ≤ (1 : Int) ∧ ((1 : Int) ≤ (zyv (List.drop (zyx b) (List.take (zyv a) a)) : Int) ∧ (zyv (List.drop (zyx b) (List.take (zyv a) a)) : Int) ≤ (zyv (List.drop (zyx b) (List.take (zyv a) a)) : Int) ∧ ((0 : Int) ≤ b ∧ b ≤ (zyv a : Int) ∧ b = b ∧ (zan (List.take (zyx b) a) [(q19 c 0 0 0 (zyu .i64 (e + d)))] ∧ (zan (List.take (zyx b) a ++ [(q19 c 0 0 0 (zyu .i64 (e + d)))]) (List.drop 1 (List.take (zyv (List.drop (zyx b) (List.take (zyv a) a))) (List.drop (zyx b) (List.take (zyv a) a)))) ∧ (Q (.t []) (q34 (zyu .i64 (g + d)) (List.take (zyx b) a ++ [(q19 c 0 0 0 (zyu .i64 (e + d)))] ++ List.drop 1 (List.take (zyv (List.drop (zyx b) (List.take (zyv a) a))) (List.drop (zyx b) (List.take (zyv a) a)))))))))) else (0 : Int) ≤ b ∧ b ≤ (zyv a : Int) ∧ b = b ∧ (zan (List.take (zyx b) a) [(q19 c 0 0 0 (zyu .i64 (e + d)))] ∧ (zan (List.take (zyx b) a ++ [(q19 c 0 0 0 (zyu .i64 (e + d)))]) (List.drop (zyx b) (List.take (zyv a) a)) ∧ (Q (.t []) (q34 (zyu .i64 (g + d)) (List.take (zyx b) a ++ [(q19 c 0 0 0 (zyu .i64 (e + d)))] ++ List.drop (zyx b) (List.take (zyv a) a)))))))) : Prop)))) → f e) → PRun Tryz.prog 277 [] [.l 5 a, q16 c 0 0 0, .f 278 [] []] (post q12 [] (fun i j => (bif !j then f 0 else elL a i (fun k => dI .i64 (ug k 4) (fun l => f l)) : Prop)))) : PRun Tryz.prog 174 [.c [.l 5 a, .i g]] [.r 0 0, .i c, .i d] Q :=
 zad ztu Tryz.func174 (by kernel_rfl) (H := ⟨[], [((174, 1, 1), ⟨[(6, .I)], []⟩)], [77, 98, 171, 175, 264], [], [], false, 64, KN.no, false, SP.no⟩) (n := 5) (by kernel_rfl) hh
theorem S75 {f : List (List U)} {g d c : Int} (hh : PRun Tryz.prog 172 [.c [.l 5 f, .i g]] [.r 0 0, .i d] (post q10 q9 (fun l e b a => (bif e != 0 then Q (.i e) [.c [.l 5 b, .i a]] else (bif decide (c < 0) then Q (.i 1) [.c [.l 5 b, .i a]] else PRun Tryz.prog 173 [] [.i a, .i c] (post q10 [] (fun h i => (bif i != 0 then Q (.i 5) [.c [.l 5 b, .i a]] else (bif decide (h > 1152921504606846976) then Q (.i 5) [.c [.l 5 b, .i a]] else PRun Tryz.prog 174 [.c [.l 5 b, .i a]] [.r 0 0, .i d, .i c] (post [] q9 (fun j k => (Q (.i 0) [.c [.l 5 j, .i k]] : Prop)))) : Prop)))) : Prop)))) : PRun Tryz.prog 75 [.c [.l 5 f, .i g]] [.r 0 0, .i d, .i c] Q :=
 zad ztu Tryz.func75 (by kernel_rfl) (H := ⟨[], [], [], [], [], false, 64, KN.no, false, SP.no⟩) (n := 2) (by kernel_rfl) hh
theorem S24 {j : List (List U)} (hh : ∃ (e : Bool → Int → List (List U) → Int → Prop) (f : Bool → Int → List (List U) → Int → Nat), e false 0 [] 0 ∧ (∀ b : Bool, ∀ a : Int, ∀ c : List (List U), ∀ d : Int, e b a c d → (bif decide (a < (zyv j : Int)) then elL j a (fun k => dI .i64 (ug k 0) (fun l => dI .i64 (ug k 1) (fun i => (bif decide (i < 0) then Q (.t [.u (.p none), .i 1]) [] else (bif decide (i > 1152921504606846976) then Q (.t [.u (.p none), .i 1]) [] else PRun Tryz.prog 74 [.c [.l 5 c, .i d]] [.r 0 0, .i l] (post q7 q9 (fun m n o => (bif m != 0 then Q (.t [.u (.p none), .i 1]) [] else PRun Tryz.prog 75 [.c [.l 5 n, .i o]] [.r 0 0, .i l, .i i] (post q7 q9 (fun p g h => (bif p != 0 then e true (zyu .i64 (a + 1)) g h ∧ f true (zyu .i64 (a + 1)) g h < f b a c d else e b (zyu .i64 (a + 1)) g h ∧ f b (zyu .i64 (a + 1)) g h < f b a c d : Prop))) : Prop)))))))) else (bif b then Q (.t [.u (.p none), .i 5]) [] else Q (.t [.r 0 0, .i 0]) [.c [.l 5 c, .i d]])))) : PRun Tryz.prog 24 [] [.l 2 j] Q :=
 zad ztu Tryz.func24 (by kernel_rfl) (H := ⟨[((24, 4, 1), ⟨[(5, .B), (12, .I)], [(0, .c [.l 5, .i .i64])]⟩)], [], [], [], [], false, 64, KN.no, false, SP.no⟩) (n := 2) (by kernel_rfl) hh
theorem S173 {a b : Int} (hh : bif decide (a ≥ 0) == decide (b ≥ 0) then (bif !(decide (zyu .i64 (a + b) ≥ 0) == decide (a ≥ 0)) then Q (.t [.i 0, .i 5]) [] else Q (.t [.i (zyu .i64 (a + b)), .i 0]) []) else Q (.t [.i (zyu .i64 (a + b)), .i 0]) []) : PRun Tryz.prog 173 [] [.i a, .i b] Q :=
 zad ztu Tryz.func173 (by kernel_rfl) (H := ⟨[], [], [], [], [], false, 64, KN.no, false, SP.no⟩) (n := 2) (by kernel_rfl) hh
end
section
variable {Q : V → Mem → Prop}
abbrev oK (o : Int) : K4 := ⟨o, 0, 0, 0⟩
abbrev pC (l : Tb) (n : Int) : AB := .c [.l 5 (l.map eT), .i n]
theorem zdl {k : K4} {l : Tb} {v : Int} (hs : Srt l) (h : zau k l = some v) : l[za4 k l]? = some (k, v) := by
 have := zpo (k := k) hs
 rw [h] at this
 split at this
 · rename_i r hr
   split at this
   · rename_i e
     cases this
     rw [hr, ← e]
   · cases this
 · cases this
theorem zis {l : Tb} {n o : Int} (hs : Srt l) (hl : l.length ≤ 1000000) (k : Q (.t [.i (zam (oK o) l), .i (if (zau (oK o) l).isSome then 0 else 3)]) [pC l n]) : PRun Tryz.prog 172 [pC l n] [.r 0 0, .i o] Q := by
 refine S172 (zbt (k := oK o) hs hl ?_)
 show (bif !(zau (oK o) l).isSome then _ else _ : Prop)
 cases hg : zau (oK o) l with
 | none =>
   simp only [zam, hg] at k
   exact k
 | some v =>
   have hr := zdl hs hg
   have hlt := (zyz.1 hr).1
   simp only [zam, hg, zz8, z3h, if_true] at k
   show elL (l.map eT) (za4 (oK o) l : Nat) _
   rw [zah (r := eT (oK o, v)) (by omega) (by simp [hr])]
   simp only [eT, ug0, ugs, zbs]
   exact k
theorem zhi {k : K4} {v : Int} {l : Tb} (hs : Srt l) {b : Bool} (hb : b = (zau k l).isSome) {K : List (List U) → Prop} (hl : l.length ≤ 1000000 - 1) (hK : K ((zdb k v l).map eT)) :
 0 ≤ ((za4 k l : Nat) : Int) ∧ (((za4 k l : Nat) : Int) ≤ (zyv (l.map eT) : Int) ∧ (zyv (l.map eT) : Int) ≤ (zyv (l.map eT) : Int) ∧ (bif b then 0 ≤ (1 : Int) ∧ ((1 : Int) ≤ (zyv (List.drop (zyx ((za4 k l : Nat) : Int)) (List.take (zyv (l.map eT)) (l.map eT))) : Int) ∧ (zyv (List.drop (zyx ((za4 k l : Nat) : Int)) (List.take (zyv (l.map eT)) (l.map eT))) : Int) ≤ (zyv (List.drop (zyx ((za4 k l : Nat) : Int)) (List.take (zyv (l.map eT)) (l.map eT))) : Int) ∧ ((0 : Int) ≤ ((za4 k l : Nat) : Int) ∧ ((za4 k l : Nat) : Int) ≤ (zyv (l.map eT) : Int) ∧ ((za4 k l : Nat) : Int) = ((za4 k l : Nat) : Int) ∧ (zan (List.take (zyx ((za4 k l : Nat) : Int)) (l.map eT)) [[.n k.a, .n k.b, .n k.c, .n k.d, .n v]] ∧ (zan (List.take (zyx ((za4 k l : Nat) : Int)) (l.map eT) ++ [[.n k.a, .n k.b, .n k.c, .n k.d, .n v]]) (List.drop 1 (List.take (zyv (List.drop (zyx ((za4 k l : Nat) : Int)) (List.take (zyv (l.map eT)) (l.map eT)))) (List.drop (zyx ((za4 k l : Nat) : Int)) (List.take (zyv (l.map eT)) (l.map eT))))) ∧ K (List.take (zyx ((za4 k l : Nat) : Int)) (l.map eT) ++ [[.n k.a, .n k.b, .n k.c, .n k.d, .n v]] ++ List.drop 1 (List.take (zyv (List.drop (zyx ((za4 k l : Nat) : Int)) (List.take (zyv (l.map eT)) (l.map eT)))) (List.drop (zyx ((za4 k l : Nat) : Int)) (List.take (zyv (l.map eT)) (l.map eT))))))))) else (0 : Int) ≤ ((za4 k l : Nat) : Int) ∧ ((za4 k l : Nat) : Int) ≤ (zyv (l.map eT) : Int) ∧ ((za4 k l : Nat) : Int) = ((za4 k l : Nat) : Int) ∧ (zan (List.take (zyx ((za4 k l : Nat) : Int)) (l.map eT)) [[.n k.a, .n k.b, .n k.c, .n k.d, .n v]] ∧ (zan (List.take (zyx ((za4 k l : Nat) : Int)) (l.map eT) ++ [[.n k.a, .n k.b, .n k.c, .n k.d, .n v]]) (List.drop (zyx ((za4 k l : Nat) : Int)) (List.take (zyv (l.map eT)) (l.map eT))) ∧ K (List.take (zyx ((za4 k l : Nat) : Int)) (l.map eT) ++ [[.n k.a, .n k.b, .n k.c, .n k.d, .n v]] ++ List.drop (zyx ((za4 k l : Nat) : Int)) (List.take (zyv (l.map eT)) (l.map eT))))))) := by
 have hp := zhz k l
 have e := zpk (k := k) (v := v) hs
 have hr : eT (k, v) = [.n k.a, .n k.b, .n k.c, .n k.d, .n v] := rfl
 simp only [z0r, zzm, zy2]
 refine ⟨by omega, by omega, zzk _, ?_⟩
 subst hb
 cases hg : (zau k l).isSome with
 | true =>
   obtain ⟨w, hw⟩ := z2k.1 hg
   have hlt := (zyz.1 (zdl hs hw)).1
   rw [hg] at e
   simp only [cond_true] at e ⊢
   rw [e, zzr, zzj, z03, z1f, hr] at hK
   refine ⟨by omega, by simp; omega, by simp, by omega, by omega, trivial, ?_, ?_, ?_⟩
   · unfold zan; simp; omega
   · unfold zan; simp; omega
   · rw [z08, zy8, z0v (show (l.map eT).length ≤ l.length by simp)]
     exact hK
 | false =>
   rw [hg] at e
   simp only [cond_false, z0y] at e ⊢
   rw [e, zzr, zzj, z03, z1f, hr] at hK
   refine ⟨by omega, by omega, trivial, ?_, ?_, ?_⟩
   · unfold zan; simp; omega
   · unfold zan; simp; omega
   · rw [zy8, z0v (show (l.map eT).length ≤ l.length by simp)]
     exact hK
def zin (o : Int) (l : Tb) : Int := if o < 0 then 1 else if 1099511627776 < o then 1 else if (zau (oK o) l).isSome then 9 else 0
def openL (o : Int) (l : Tb) : Tb := if zin o l = 0 then zdb (oK o) 0 l else l
theorem open_S {l : Tb} {n o : Int} (hs : Srt l) (hl : l.length ≤ 999999) (k : Q (.i (zin o l)) [pC (openL o l) n]) : PRun Tryz.prog 74 [pC l n] [.r 0 0, .i o] Q := by
 refine PRun.trim (PRun.frz 0 0 (S74 ?_))
 unfold openL at k
 refine cIf (fun h => ?_) fun h => cIf (fun h2 => ?_) fun h2 => zbt (k := oK o) hs (by omega) ?_
 · have e : zin o l = 1 := if_pos h
   rw [e] at k
   exact k
 · have e : zin o l = 1 := by unfold zin; rw [if_neg h, if_pos (show 1099511627776 < o from h2)]
   rw [e] at k
   exact k
 show (bif !(zau (oK o) l).isSome then _ else _ : Prop)
 cases hg : zau (oK o) l with
 | some v =>
   have e : zin o l = 9 := by unfold zin; rw [if_neg h, if_neg (show ¬ 1099511627776 < o from h2), hg]; rfl
   rw [e] at k
   have hr := zdl hs hg
   show elL (l.map eT) (za4 (oK o) l : Nat) _
   rw [zah (r := eT (oK o, v)) (by omega) (by simp [hr])]
   simp only [eT, ug0, ugs, zbs]
   exact k
 | none =>
   have e : zin o l = 0 := by unfold zin; rw [if_neg h, if_neg (show ¬ 1099511627776 < o from h2), hg]; rfl
   rw [e] at k
   refine zbt (k := oK o) hs (by omega) ?_
   exact zhi (k := oK o) (v := 0) hs rfl (by omega) (K := fun rows => Q (.i 0) (ztb 1 (.i 0) (frzAt [.c [.w 1, .i n], .w 279 5 rows] 0 0))) k
theorem zyr {l : Tb} {n o x : Int} (hs : Srt l) (hl : l.length ≤ 999999) (k : Q (.t []) [pC (zdb (oK o) (zyu .i64 (zam (oK o) l + x)) l) (zyu .i64 (n + x))]) : PRun Tryz.prog 174 [pC l n] [.r 0 0, .i o, .i x] Q := by
 refine PRun.trim (PRun.frz 0 0 (S174 ?_))
 intro k1 hk1
 have main : k1 (zam (oK o) l) := by
  refine hk1 _ (zbt (k := oK o) hs (by omega) ?_)
  exact zhi (k := oK o) (v := zyu .i64 (zam (oK o) l + x)) hs rfl (by omega) (K := fun rows => Q (.t []) (ztb 1 (.t []) (frzAt [.c [.w 1, .i (zyu .i64 (n + x))], .w 279 5 rows] 0 0))) k
 refine zbt (k := oK o) hs (by omega) ?_
 show (bif !(zau (oK o) l).isSome then _ else _ : Prop)
 cases hg : zau (oK o) l with
 | none =>
   simp only [zam, hg] at main
   exact main
 | some v =>
   have hr := zdl hs hg
   simp only [zam, hg, zz8] at main
   show elL (l.map eT) (za4 (oK o) l : Nat) _
   rw [zah (r := eT (oK o, v)) (by omega) (by simp [hr])]
   simp only [eT, ug0, ugs, zbs]
   exact main
end
section
set_option maxRecDepth 100000
theorem zkf : Tryz.prog.follows .mixedOrders = true := by kernel_rfl
theorem S76 {a b c d : Int} (hh : bif decide (a ≥ 0) then (bif decide (a ≤ 1099511627776) then (bif decide (b ≥ 0) then (bif decide (b ≤ 4) then (bif decide (c ≥ 1) then (bif decide (c ≤ 8) then (bif decide (d ≥ 1) then Q (.u (.b (decide (d ≤ 32)))) [] else Q (.u (.b false)) []) else Q (.u (.b false)) []) else Q (.u (.b false)) []) else Q (.u (.b false)) []) else Q (.u (.b false)) []) else Q (.u (.b false)) []) else Q (.u (.b false)) []) : PRun Tryz.prog 76 [] [(q16 a b c d)] Q :=
 zad zkf Tryz.func76 (by kernel_rfl) (H := ⟨[], [], [42], [], [], false, 64, KN.no, false, SP.no⟩) (n := 3) (by kernel_rfl) hh
theorem S32 {c d e f : Int} (hh : PRun Tryz.prog 277 [] [.l 5 a, q16 c d e f, .f 278 [] []] (post q12 [] (fun g h => (bif !h then Q (.i 0) (q15 a b) else elL a g (fun i => dI .i64 (ug i 4) (fun j => Q (.i j) (q15 a b))) : Prop)))) : PRun Tryz.prog 32 (q15 a b) [.r 0 0, q16 c d e f] Q :=
 zad zkf Tryz.func32 (by kernel_rfl) (H := ⟨[], [], [78, 98, 175, 264], [], [], false, 64, KN.no, false, SP.no⟩) (n := 5) (by kernel_rfl) hh
theorem S298 {k : List (List U)} {g h i b d : Int} (hh : PRun Tryz.prog 32 (q15 k l) [.r 0 0, q16 g h i b] (post q7 q3 (fun j a f => (bif zyu .i64 (j + d) == 0 then PRun Tryz.prog 277 [] [.l 5 a, q16 g h i b, .f 278 [] []] (post q12 [] (fun e m => (bif m then (0 : Int) ≤ e ∧ e ≤ (zyv a : Int) ∧ e = e ∧ (0 ≤ zyu .i64 (e + 1) ∧ (zyu .i64 (e + 1) ≤ (zyv a : Int) ∧ (zyv a : Int) ≤ (zyv a : Int) ∧ (zan (List.take (zyx e) a) (List.drop (zyx (zyu .i64 (e + 1))) (List.take (zyv a) a)) ∧ (match (List.drop (zyx (zyu .i64 (e + 1))) (List.take (zyv a) a)) with | _ :: _ => (0 ≤ b ∧ b < (33 : Int) ∧ (elL f b (fun n => 0 ≤ b ∧ b < (33 : Int) ∧ (Q (.t []) (q31 (zzb f (zyx b) (zyu .i64 (n + d))) (List.take (zyx e) a ++ List.drop (zyx (zyu .i64 (e + 1))) (List.take (zyv a) a))))))) | [] => (0 ≤ b ∧ b < (33 : Int) ∧ (elL f b (fun o => 0 ≤ b ∧ b < (33 : Int) ∧ (Q (.t []) [.c [.c 5 (List.take (zyx e) a), .n .i64 33 (zzb f (zyx b) (zyu .i64 (o + d)))]])))) : Prop)))) else 0 ≤ b ∧ b < (33 : Int) ∧ (elL f b (fun p => 0 ≤ b ∧ b < (33 : Int) ∧ (Q (.t []) (q15 a (zzb f (zyx b) (zyu .i64 (p + d))))))) : Prop))) else PRun Tryz.prog 277 [] [.l 5 a, q16 g h i b, .f 278 [] []] (post q12 [] (fun c q => (0 ≤ c ∧ (c ≤ (zyv a : Int) ∧ (zyv a : Int) ≤ (zyv a : Int) ∧ (bif q then 0 ≤ (1 : Int) ∧ ((1 : Int) ≤ (zyv (List.drop (zyx c) (List.take (zyv a) a)) : Int) ∧ (zyv (List.drop (zyx c) (List.take (zyv a) a)) : Int) ≤ (zyv (List.drop (zyx c) (List.take (zyv a) a)) : Int) ∧ ((0 : Int) ≤ c ∧ c ≤ (zyv a : Int) ∧ c = c ∧ (zan (List.take (zyx c) a) [(q19 g h i b (zyu .i64 (j + d)))] ∧ (zan (List.take (zyx c) a ++ [(q19 g h i b (zyu .i64 (j + d)))]) (List.drop 1 (List.take (zyv (List.drop (zyx c) (List.take (zyv a) a))) (List.drop (zyx c) (List.take (zyv a) a)))) ∧ (0 ≤ b ∧ b < (33 : Int) ∧ (elL f b (fun r => 0 ≤ b ∧ b < (33 : Int) ∧ (Q (.t []) (q31 (zzb f (zyx b) (zyu .i64 (r + d))) (List.take (zyx c) a ++ [(q19 g h i b (zyu .i64 (j + d)))] ++ List.drop 1 (List.take (zyv (List.drop (zyx c) (List.take (zyv a) a))) (List.drop (zyx c) (List.take (zyv a) a))))))))))))) else (0 : Int) ≤ c ∧ c ≤ (zyv a : Int) ∧ c = c ∧ (zan (List.take (zyx c) a) [(q19 g h i b (zyu .i64 (j + d)))] ∧ (zan (List.take (zyx c) a ++ [(q19 g h i b (zyu .i64 (j + d)))]) (List.drop (zyx c) (List.take (zyv a) a)) ∧ (0 ≤ b ∧ b < (33 : Int) ∧ (elL f b (fun s => 0 ≤ b ∧ b < (33 : Int) ∧ (Q (.t []) (q31 (zzb f (zyx b) (zyu .i64 (s + d))) (List.take (zyx c) a ++ [(q19 g h i b (zyu .i64 (j + d)))] ++ List.drop (zyx c) (List.take (zyv a) a))))))))))) : Prop))) : Prop)))) : PRun Tryz.prog 298 (q15 k l) [.r 0 0, q16 g h i b, .i d] Q :=
 zad zkf Tryz.func298 (by kernel_rfl) (H := ⟨[], [], [77, 78, 175, 264, 347], [], [], false, 64, KN.no, false, SP.no⟩) (n := 5) (by kernel_rfl) hh
theorem S205 {c : List (List U)} {e f g a d : Int} (hh : PRun Tryz.prog 76 [] [(q16 e f g a)] (post [.B] [] (fun h => (bif !h then Q (.i 1) (q15 c b) else (bif decide (d < 0) then Q (.i 1) (q15 c b) else 0 ≤ a ∧ a < (33 : Int) ∧ (elL b a (fun i => (bif decide (d > zyu .i64 (1125899906842624 - i)) then Q (.i 5) (q15 c b) else PRun Tryz.prog 298 (q15 c b) [.r 0 0, q16 e f g a, .i d] (post [] q3 (fun j k => (Q (.i 0) (q15 j k) : Prop))))))) : Prop)))) : PRun Tryz.prog 205 (q15 c b) [.r 0 0, q16 e f g a, .i d] Q :=
 zad zkf Tryz.func205 (by kernel_rfl) (H := ⟨[], [], [], [], [], false, 64, KN.no, false, SP.no⟩) (n := 2) (by kernel_rfl) hh
theorem S291 {e : List (List U)} {f : List Int} {a b c d g : Int} (hh : PRun Tryz.prog 76 [] [(q16 a b c d)] (post [.B] [] (fun j => (bif !j then Q (.i 1) (q15 e f) else (bif decide (g < 0) then Q (.i 1) (q15 e f) else PRun Tryz.prog 32 (q15 e f) [.r 0 0, q16 a b c d] (post q7 q3 (fun k h i => (bif decide (g > k) then Q (.i 7) (q15 h i) else PRun Tryz.prog 298 (q15 h i) [.r 0 0, q16 a b c d, .i (zyu .i64 (0 - g))] (post [] q3 (fun l m => (Q (.i 0) (q15 l m) : Prop))) : Prop)))) : Prop)))) : PRun Tryz.prog 291 (q15 e f) [.r 0 0, q16 a b c d, .i g] Q :=
 zad zkf Tryz.func291 (by kernel_rfl) (H := ⟨[], [], [], [], [], false, 64, KN.no, false, SP.no⟩) (n := 2) (by kernel_rfl) hh
theorem S14 {c : List (List U)} {a : Int} (hh : bif decide (a ≥ 1) then (bif !(decide (a ≤ 32)) then Q (.i 0) (q15 c b) else 0 ≤ a ∧ a < (33 : Int) ∧ (elL b a (fun d => Q (.i d) (q15 c b)))) else Q (.i 0) (q15 c b)) : PRun Tryz.prog 14 (q15 c b) [.r 0 0, .i a] Q :=
 zad zkf Tryz.func14 (by kernel_rfl) (H := ⟨[], [], [42], [], [], false, 64, KN.no, false, SP.no⟩) (n := 3) (by kernel_rfl) hh
end
section
variable {Q : V → Mem → Prop}
abbrev bC (l : Tb) (a : List Int) : AB := .c [.l 5 (l.map eT), .n .i64 33 a]
def isB (k : K4) : Bool := decide (k.a ≥ 0) && (decide (k.a ≤ 1099511627776) && (decide (k.b ≥ 0) && (decide (k.b ≤ 4) && (decide (k.c ≥ 1) && (decide (k.c ≤ 8) && (decide (k.d ≥ 1) && decide (k.d ≤ 32)))))))
theorem zob {k : Bool → Prop} {c r : Bool} {T : Prop} (h : k (c && r)) (hT : k r → T) : bif c then T else k false := by
 cases c with
 | true => exact hT h
 | false => exact h
theorem zxn {k : K4} (K : Q (.u (.b (isB k))) []) : PRun Tryz.prog 76 [] [kV k] Q := by
 refine S76 ?_
 generalize hk : (fun b => Q (.u (.b b)) []) = q
 have e : ∀ b, Q (.u (.b b)) [] = q b := fun b => by rw [← hk]
 rw [e] at K
 simp only [e]
 exact zob K fun h => zob h fun h => zob h fun h => zob h fun h => zob h fun h => zob h fun h => zob h fun h => h
theorem qty_S {l : Tb} {a : List Int} {k : K4} (hs : Srt l) (hl : l.length ≤ 1000000) (K : Q (.i (zam k l)) [bC l a]) : PRun Tryz.prog 32 [bC l a] [.r 0 0, kV k] Q := by
 refine S32 (zbt (k := k) hs hl ?_)
 show (bif !(zau k l).isSome then _ else _ : Prop)
 cases hg : zau k l with
 | none =>
   simp only [zam, hg] at K
   exact K
 | some v =>
   have hr := zdl hs hg
   have hlt := (zyz.1 hr).1
   simp only [zam, hg, zz8] at K
   show elL (l.map eT) (za4 k l : Nat) _
   rw [zah (r := eT (k, v)) (by omega) (by simp [hr])]
   simp only [eT, ug0, ugs, zbs]
   exact K
end
section
variable {P : Program} {D : Fz} {ρ : List Loc} {m : Mem} {chs C : List zac} {h : zaf}
def unc : V → V
 | .c s r => .u (.l s r)
 | v => v
def uncA : AB → AB
 | .c l => .c (l.map unc)
 | a => a
theorem unc_S (r : Rp D ρ v x) : Rp D ρ v (unc x) := by
 by_cases hx : ∃ s q, x = .c s q
 · obtain ⟨s, q, rfl⟩ := hx
   obtain ⟨a, rfl, h⟩ := r.c_inv
   exact .u h
 · have : unc x = x := by
    cases x <;> first | rfl | exact absurd ⟨_, _, rfl⟩ hx
   rw [this]; exact r
theorem zu2 : ∀ {l : List V} {vs : List Value}, RpC D ρ vs l → RpC D ρ vs (l.map unc)
 | [], _, .nil => .nil
 | _ :: _, _, .cons a b c => .cons (unc_S a) (fun k w l e => by
     rename_i x xs vs v
     cases x <;> simp only [unc] at e <;> first | exact b _ _ _ e | cases e) (zu2 c)
 | _ :: _, _, .n e c => .n e (zu2 c)
theorem SAt.unc (M : SAt D ρ m chs C h) : SAt D ρ (m.map uncA) chs C h where
 len := by rw [zy2]; exact M.len
 lch := by rw [zy2]; exact M.lch
 ent i L ab ch h1 h2 h3 := by
  rw [zy5] at h2
  obtain ⟨a, h4, rfl⟩ := z0e.1 h2
  have he := M.ent i L a ch h1 h4 h3
  cases he with
  | c hc => exact .c (zu2 hc)
  | w a b => exact .w a b
  | o a => exact .o a
  | p a b c => exact .p a b c
  | tk a => exact .tk a
  | x => exact .x
  | cw a b c d e f => exact .cw a b c d e f
 st := M.st
theorem PRun.unc (hh : PRun P g m args fun x m' => Q x (m'.map uncA)) : PRun P g m args Q := by
 intro D ρ chs C h vs M F
 refine (hh D ρ chs C h vs M F).mono ?_
 rintro v h' ⟨D', s, chs', x, m', le, M', hv, hq⟩
 exact ⟨D', s, chs', x, m'.map uncA, le, M'.unc, hv, hq⟩
end
section
variable {Q : V → Mem → Prop}
def zez (k : K4) (v : Int) (l : Tb) : Tb := if v = 0 then zj6 k l else zdb k v l
def aset (a : List Int) (d n : Int) : List Int := a.set d.toNat (zyu .i64 ((a[d.toNat]?).getD 0 + n))
theorem adds_B {l : Tb} {a : List Int} {k : K4} {n : Int} (hs : Srt l) (hl : l.length ≤ 999999) (ha : a.length = 33) (hd : 0 ≤ k.d ∧ k.d < 33) (K : Q (.t []) [bC (zez k (zyu .i64 (zam k l + n)) l) (aset a k.d n)]) :
 PRun Tryz.prog 298 [bC l a] [.r 0 0, kV k, .i n] Q := by
 obtain ⟨v, hv⟩ : ∃ v, a[k.d.toNat]? = some v := ⟨a[k.d.toNat]'(by omega), zy0 (by omega)⟩
 have tot : ∀ {T : Int → Prop}, T v → 0 ≤ k.d ∧ k.d < (33 : Int) ∧ elL a k.d (fun x => 0 ≤ k.d ∧ k.d < (33 : Int) ∧ T x) := fun h => by
  refine ⟨hd.1, hd.2, ?_⟩
  rw [zah (r := v) hd.1 hv]
  exact ⟨hd.1, hd.2, h⟩
 have ea : aset a k.d n = a.set k.d.toNat (zyu .i64 (v + n)) := by unfold aset; rw [hv]; rfl
 rw [ea] at K
 refine PRun.unc (PRun.trim (PRun.frz 0 0 (S298 (qty_S hs (by omega) ?_))))
 show (bif zyu .i64 (zam k l + n) == 0 then _ else _ : Prop)
 refine cEq (fun h0 => ?_) fun h0 => ?_
 · rw [h0] at K
   unfold zez at K
   rw [if_pos rfl, zpp hs] at K
   refine zbt (k := k) hs (by omega) ?_
   show (bif (zau k l).isSome then _ else _ : Prop)
   cases hg : zau k l with
   | none =>
     rw [hg] at K
     exact tot K
   | some w =>
     rw [hg] at K
     have hlt := (zyz.1 (zdl hs hg)).1
     simp only [z3h, cond_true] at K ⊢
     have e1 : zyu .i64 (((za4 k l : Nat) : Int) + 1) = ((za4 k l + 1 : Nat) : Int) := by rw [w64 (by omega) (by omega)]; omega
     have et : List.take l.length (l.map eT) = l.map eT := z0v (by simp)
     simp only [e1, zzm, zy2, et]
     simp only [bC, zzr, z03, z1f] at K
     refine ⟨by omega, by omega, trivial, by omega, by omega, zzk _, by unfold zan; simp; omega, ?_⟩
     split
     · exact tot K
     · rename_i hm
       rw [hm, zzw] at K
       exact tot K
 · unfold zez at K
   rw [if_neg h0] at K
   refine zbt (k := k) hs (by omega) ?_
   exact zhi (k := k) (v := zyu .i64 (zam k l + n)) hs rfl (by omega) (K := fun rows => 0 ≤ k.d ∧ k.d < (33 : Int) ∧ elL a k.d (fun x => 0 ≤ k.d ∧ k.d < (33 : Int) ∧ Q (.t []) (zzf uncA (ztb 1 (.t []) (frzAt [.c [.w 1, .n .i64 33 (zzb a (zyx k.d) (zyu .i64 (x + n)))], .w 279 5 rows] 0 0))))) (tot K)
end
end Go.Proofs.YtacglpinmpncaaaGreat
