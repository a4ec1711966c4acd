/- The fast evaluator, part d: regions, code, a function's run; all that may come of them. -/
import Derived.Test.YtalglagdgabafaaGreatHk3
import Derived.LoopNIn
set_option linter.unusedVariables false
namespace Go.Proofs.YtalglagdgabafaaGreat
open _root_.Array renaming getD_eq_getD_getElem? → z4s, mapM_eq_mapM_toList → z6i
open _root_.Bool renaming and_eq_true → z17, false_eq_true → z3n, not_eq_true' → z2u, or_eq_false_iff → z49
open _root_.Int renaming eq_ofNat_of_zero_le → z4e, negSucc_eq → z40, ofNat_eq_natCast → z4q, toNat_natCast → z27
open _root_.Go.IntKind renaming wrap → z13
open _root_.List renaming all_eq_true → z29, append_assoc → z2m, append_nil → z3a, cons_append → z3r, dropLast_concat_getLast → z6k, drop_drop → z4x, drop_eq_nil_of_le → z4n, drop_succ_cons → z59, drop_zero → z38, eq_nil_of_length_eq_zero → z3w, eraseIdx_append_of_lt_length → z4k, ext_getElem → z4m, flatMap_cons → z52, flatten_append → z21, flatten_cons → z2n, flatten_nil → z6a, getElem?_append_left → z2k, getElem?_append_right → z2t, getElem?_cons_succ → z4t, getElem?_drop → z4i, getElem?_eq_getElem → z2c, getElem?_eq_none → z3u, getElem?_eq_some_iff → z2a, getElem?_map → z2i, getElem?_range → z5s, getElem?_set_ne → z23, getElem?_set_self → z3x, getElem_map → z4p, getElem_mem → z4y, getElem_range → z58, length_append → z2z, length_cons → z2o, length_map → z2d, length_range → z6y, mapM_cons → z48, map_append → z28, map_congr_left → z5p, map_cons → z2s, map_map → z3c, mem_append → z2f, mem_cons → z2e, mem_cons_of_mem → z2j, mem_cons_self → z2p, mem_flatMap → z5u, mem_map → z20, mem_of_getElem? → z2y, mem_singleton → z3v, mem_singleton_self → z2x, nil_append → z3f, nodup_append → z4u, nodup_cons → z4d, pairwise_cons → z3l, perm_append_comm → z5a, perm_append_comm_assoc → z3g, perm_middle → z4z, range → z2b, replicate → z2g, replicate_succ → z4j, set_eq_of_length_le → z5t, size_toArray → z4h, sublist_append_right → z6w
open _root_.Nat renaming beq → z14, ble → z19, ble_eq_true_of_le → z32, eq_of_beq_eq_true → z18, le_of_ble_eq_true → z2w, le_refl → z2r, lt_of_lt_of_le → z5l, min_eq_left → z5c, ne_of_beq_eq_false → z6x, zero_add → z2l, zero_le → z3j
open _root_.Option renaming getD_some → z3b, map_eq_some_iff → z3k, map_some → z3h
open _root_.Go.Result renaming andThen_ok → z2h
section
variable {P : Program} {D D' : Fz} {ρ ρ' : List Loc} {m m' : Mem} {chs C : List zab} {h h' : zac} {T : List Value} {t : List V} {ro hr : List Nat}
def zyd : Pt → It → Bool
 | .i k, .v (.u (.i k' _)) => z14 (zap k) (zap k')
 | .b, .v (.u (.b _)) => true
 | .s, .v (.u (.s _)) => true
 | .l s, .v (.u (.l s' _)) => z14 s s'
 | .p, .v (.u (.p _)) => true
 | .n w, .v (.n .i64 w' _) => z14 w w'
 | .ow E sz, .e (.w E' sz' _) => z14 E E' && z14 sz sz'
 | .row E sz, .e (.w E' sz' _) => z14 E E' && z14 sz sz'
 | .A, .e (.o _) => true
 | .w j, .v (.w j') => z14 j j'
 | .r j o, .v (.r j' o') => z14 j j' && z14 o o'
 | .m j, .v (.m j') => z14 j j'
 | .nm, .v .nm => true
 | .z, .v .z => true
 | .X, .e .x => true
 | .mp kt sz ag, .e (.p kt' sz' ag' _) => zxl kt kt' && z14 sz sz' && (ag == ag')
 | _, _ => false
theorem app_lam {X : Type} {y : Pt} {i : It} (ho : zyd y i = true) (K : It → X) : y.app (y.lam K) i = some (K i) := by
 unfold zyd at ho
 split at ho
 case h_1 k k' n =>
  have := zcr (z18 ho)
  subst this; rfl
 case h_4 s s' c =>
  have := z18 ho
  subst this; rfl
 case h_6 w w' c =>
  have := z18 ho
  subst this; rfl
 case h_7 =>
  simp only [z17] at ho
  have h1 := z18 ho.1
  have h2 := z18 ho.2
  subst h1 h2; rfl
 case h_8 =>
  simp only [z17] at ho
  have h1 := z18 ho.1
  have h2 := z18 ho.2
  subst h1 h2; rfl
 case h_10 =>
  have := z18 ho
  subst this; rfl
 case h_11 =>
  simp only [z17] at ho
  have h1 := z18 ho.1
  have h2 := z18 ho.2
  subst h1 h2; rfl
 case h_12 =>
  have := z18 ho
  subst this; rfl
 case h_16 =>
  simp only [z17, beq_iff_eq] at ho
  have h1 := zfz ho.1.1
  have h2 := z18 ho.1.2
  have h3 := ho.2
  subst h1 h2 h3; rfl
 all_goals first | rfl | cases ho
theorem zpv {X : Type} {y : Pt} {i : It} (ho : zyd y i = true) (F : y.Fn X) : ∃ G, y.app F i = some G := by
 unfold zyd at ho
 split at ho <;> first | exact ⟨_, rfl⟩ | cases ho
theorem app_zip {X Y Z : Type} {y : Pt} {i : It} (ho : zyd y i = true) {a : y.Fn X} {b : y.Fn Y} (G : X → Y → Z) {a' : X} {b' : Y} (ha : y.app a i = some a') (hb : y.app b i = some b') : y.app (y.zip a b G) i = some (G a' b') := by
 unfold zyd at ho
 split at ho <;> first | (cases ha; cases hb; rfl) | cases ho
theorem app_all {X : Type} {y : Pt} {i : It} (ho : zyd y i = true) {a : y.Fn X} {K : X → Prop} (hall : y.all a K) {a' : X} (ha : y.app a i = some a') : K a' := by
 unfold zyd at ho
 split at ho <;> first | (cases ha; exact hall _) | (cases ha; exact hall) | cases ho
inductive OkL : List Pt → List It → Prop
 | nil : OkL [] []
 | cons {y : Pt} {i : It} {ps : List Pt} {is : List It} : zyd y i = true → OkL ps is → OkL (y :: ps) (i :: is)
theorem OkL.app {ps qs : List Pt} {is js : List It} (h1 : OkL ps is) (h2 : OkL qs js) : OkL (ps ++ qs) (is ++ js) := by
 induction h1 with
 | nil => exact h2
 | cons a _ ih => exact .cons a ih
theorem OkL.len {ps : List Pt} {is : List It} (h1 : OkL ps is) : is.length = ps.length := by
 induction h1 with
 | nil => rfl
 | cons a _ ih => simp [ih]
theorem apP_mk {R : Type} {d : R} {ps : List Pt} {is : List It} (ho : OkL ps is) : ∀ (K : List It → R), apP d ps (mkP ps K) is = K is := by
 induction ho with
 | nil => intro K; rfl
 | cons a _ ih =>
   intro K
   simp only [mkP, apP]
   rw [app_lam a]
   exact ih _
theorem zuh {X Y Z : Type} {G : X → Y → Z} {d : Z} {d1 : X} {d2 : Y} {ps : List Pt} {is : List It} (ho : OkL ps is) : ∀ (a : PtT X ps) (b : PtT Y ps), apP d ps (zipP G ps a b) is = G (apP d1 ps a is) (apP d2 ps b is) := by
 induction ho with
 | nil => intro a b; rfl
 | cons hi _ ih =>
   intro a b
   obtain ⟨a', ha⟩ := zpv hi a
   obtain ⟨b', hb⟩ := zpv hi b
   simp only [zipP, apP]
   rw [app_zip hi _ ha hb, ha, hb]
   exact ih a' b'
theorem allP_ap {ps : List Pt} {is : List It} (ho : OkL ps is) : ∀ {a : PtT Prop ps}, allP ps a → apP False ps a is := by
 induction ho with
 | nil => intro a hh; exact hh
 | cons hi _ ih =>
   intro a hh
   obtain ⟨a', ha⟩ := zpv hi a
   simp only [apP, ha]
   exact ih (app_all hi hh ha)
theorem allP_self : ∀ (ps : List Pt) (K : List It → Prop), allP ps (zipP (fun (A B : Prop) => A → B) ps (mkP ps K) (mkP ps K)) := by
 intro ps
 induction ps with
 | nil => intro K; exact id
 | cons y ps ih =>
   intro K
   simp only [allP, zipP, mkP]
   cases y <;> simp only [Pt.all, Pt.zip, Pt.lam] <;> first | (intro n; exact ih _) | exact ih _
theorem SAt.take (M : SAt D ρ m chs C h) {b : Nat} {L : Loc} {ch : zab} (hL : ρ[b]? = some L) (hc : chs[b]? = some ch) : SAt D ρ (ms m b .x) (chs.set b []) (ch :: C) h :=
 M.put (C' := ch :: C) hL hc (ch' := []) (by
  have hlt := (z2a.1 hc).1
  have S' := M.front hc
  rw [z4k hlt] at S' ⊢
  exact S'.mid.nil) (.refl D) .x
theorem SAt.perm (M : SAt D ρ m chs C h) {C' : List zab} (p : C.flatten.Perm C'.flatten) : SAt D ρ m chs C' h :=
 M.mono (.refl D) (M.st.perm (by simp only [z21]; exact p.append_left _))
theorem SAt.kill (M : SAt D ρ m chs C h) (b : Nat) : ∃ ch, SAt D ρ (ms m b .x) (chs.set b []) (ch :: C) h ∧ (b < m.length → chs[b]? = some ch) := by
 by_cases hb : b < m.length
 · have hr : b < ρ.length := by rw [M.len]; exact hb
   have hc : b < chs.length := by rw [M.lch]; exact hb
   exact ⟨_, M.take (z2c hr) (z2c hc), fun _ => z2c hc⟩
 · have e1 : ms m b .x = m := by rw [zq9]; exact z5t (by omega)
   have e2 : chs.set b [] = chs := z5t (by rw [M.lch]; omega)
   refine ⟨[], ?_, fun h => absurd h hb⟩
   rw [e1, e2]
   exact M.perm (by simp)
inductive OV (D : Fz) (ρ : List Loc) (lim : Nat) : List Value → List It → List zab → Prop
 | nil : OV D ρ lim [] [] []
 | v {v : Value} {x : V} {vs : List Value} {os : List It} {tk : List zab} : Rp D ρ v x → (∀ b ∈ zae x, b < lim) → (∀ k w l, x ≠ .n k w l) → OV D ρ lim vs os tk → OV D ρ lim (v :: vs) (.v x :: os) tk
 | n {w : Nat} {l : List Int} {vs : List Value} {os : List It} {tk : List zab} : l.length = w → OV D ρ lim vs os tk → OV D ρ lim (l.map (.int .i64) ++ vs) (.v (.n .i64 w l) :: os) tk
 | e {L : Loc} {E sz : Nat} {rows : List (List U)} {ch : zab} {vs : List Value} {os : List It} {tk : List zab} : Ent D ρ L (.w E sz rows) ch → OV D ρ lim vs os tk → OV D ρ lim (.slice L.a L.n L.c :: vs) (.e (.w E sz rows) :: os) (ch :: tk)
theorem pk1_kill {lim : Nat} {y : Pt} {x : V} {i : It} (h1 : pk1 lim m y x = some (i, m')) (b : Nat) : mg m' b = mg m b ∨ mg m' b = .x := by
 unfold pk1 at h1
 have key : ∀ {c : Bool} {i' : It}, (cond c (some (i', m)) none) = some (i, m') → mg m' b = mg m b ∨ mg m' b = .x := by
  intro c i' hh
  cases c <;> cases hh
  exact .inl rfl
 split at h1 <;> first
  | exact key h1
  | (cases h1; done)
  | (cases h1; exact .inl rfl)
  | (rename_i E sz j
     split at h1
     · rename_i E' sz' rows hm
       cases hb : (z14 E E' && z14 sz sz') with
       | false => rw [hb] at h1; cases h1
       | true =>
         rw [hb] at h1
         cases h1
         by_cases hbj : j = b
         · subst hbj; exact .inr (z00 (mg_lt (by rw [hm]; simp)))
         · exact .inl (zbh hbj)
     · cases h1)
theorem zfv {lim : Nat} : ∀ {ps : List Pt} {xs : List V} {m m' : Mem} {os : List It}, pkV lim m ps xs = some (os, m') → ∀ b, mg m' b = mg m b ∨ mg m' b = .x
 | [], [], m, m', os, hp => by cases hp; exact fun b => .inl rfl
 | [], _ :: _, m, m', os, hp => by cases hp
 | _ :: _, [], m, m', os, hp => by cases hp
 | y :: ps, x :: xs, m, m', os, hp => by
   simp only [pkV] at hp
   split at hp
   · rename_i o m1 h1
     split at hp
     · rename_i os' m2 h2
       cases hp
       intro b
       rcases zfv h2 b with h3 | h3
       · rcases pk1_kill h1 b with h4 | h4
         · exact .inl (h3.trans h4)
         · exact .inr (h3.trans h4)
       · exact .inr h3
     · cases hp
   · cases hp
theorem zkh (m : Mem) (j b : Nat) : mg (ms m j .x) b = mg m b ∨ mg (ms m j .x) b = .x := by
 by_cases hbj : j = b
 · subst hbj
   by_cases hlt : j < m.length
   · exact .inr (z00 hlt)
   · refine .inl ?_
     rw [zq9, z5t (by omega)]
 · exact .inl (zbh hbj)
theorem zcm {lim : Nat} : ∀ {ps : List BP} {js : List Nat} {m m' : Mem} {os : List It}, pkB lim m ps js = some (os, m') → ∀ b, mg m' b = mg m b ∨ mg m' b = .x
 | [], [], m, m', os, hp => by cases hp; exact fun b => .inl rfl
 | [], _ :: _, m, m', os, hp => by cases hp
 | _ :: _, [], m, m', os, hp => by cases hp
 | y :: ps, j :: js, m, m', os, hp => by
   simp only [pkB] at hp
   split at hp
   · rename_i o m1 h1
     split at hp
     · rename_i os' m2 h2
       cases hp
       have h1k : ∀ b, mg m1 b = mg m b ∨ mg m1 b = .x := by
        intro b
        cases y with
        | A => simp only [z0c] at h1; split at h1 <;> cases h1; exact zkh m j b
        | X => simp only [z0c] at h1; cases h1; exact zkh m j b
        | row E sz =>
          simp only [z0c] at h1
          split at h1
          · rename_i E' sz' rows hm
            cases hb : (z14 E E' && z14 sz sz') <;> rw [hb] at h1 <;> cases h1
            exact zkh m j b
          · cases h1
        | mp kt sz ag =>
          simp only [z0c] at h1
          split at h1
          · rename_i kt' sz' ag' rows hm
            cases hb : (zxl kt kt' && z14 sz sz' && (ag == ag')) <;> rw [hb] at h1 <;> cases h1
            exact zkh m j b
          · cases h1
        | c qs =>
          simp only [z0c] at h1
          split at h1
          · rcases zfv h1 b with h3 | h3
            · rcases zkh m j b with h4 | h4
              · exact .inl (h3.trans h4)
              · exact .inr (h3.trans h4)
            · exact .inr h3
          · cases h1
       intro b
       rcases zcm h2 b with h3 | h3
       · rcases h1k b with h4 | h4
         · exact .inl (h3.trans h4)
         · exact .inr (h3.trans h4)
       · exact .inr h3
     · cases hp
   · cases hp
theorem zd0 {j : Nat} {c' : List zab} (hk : ∀ b, mg m' b = mg (ms m j .x) b ∨ mg m' b = .x) (kk : ∀ b, mg m' b ≠ .x → c'[b]? = (chs.set j [])[b]?) : ∀ b, mg m' b ≠ .x → c'[b]? = chs[b]? := by
 intro b hb
 rw [kk b hb, z23]
 rintro rfl
 rcases hk j with h1 | h1
 · by_cases hlt : j < m.length
   · exact hb (h1.trans (z00 hlt))
   · exact hb (h1.trans (by rw [zkk, zq9, z5t (by omega), z3u (by omega)]; rfl))
 · exact hb h1
theorem ztj {lim : Nat} : ∀ {ps : List Pt} {xs : List V} {m m' : Mem} {os : List It} {vs : List Value} {chs C : List zab}, pkV lim m ps xs = some (os, m') → SAt D ρ m chs C h → RpC D ρ vs xs →
 ∃ tk chs', SAt D ρ m' chs' (tk ++ C) h ∧ OV D ρ lim vs os tk ∧ OkL ps os ∧ ∀ b, mg m' b ≠ .x → chs'[b]? = chs[b]?
 | [], [], m, m', os, vs, chs, C, hp, M, hv => by cases hp; cases hv; exact ⟨[], chs, M, .nil, .nil, fun _ _ => rfl⟩
 | [], _ :: _, m, m', os, vs, chs, C, hp, M, hv => by cases hp
 | _ :: _, [], m, m', os, vs, chs, C, hp, M, hv => by cases hp
 | y :: ps, x :: xs, m, m', os, vs, chs, C, hp, M, hv => by
   simp only [pkV] at hp
   split at hp
   · rename_i o m1 h1
     split at hp
     · rename_i os' m2 h2
       cases hp
       -- a value
       have val : ∀ {v : Value} {vs' : List Value} {x' : V}, vs = v :: vs' → m1 = m → o = .v x' → Rp D ρ v x' → (∀ b ∈ zae x', b < lim) → (∀ k w l, x' ≠ .n k w l) → zyd y (.v x') = true → RpC D ρ vs' xs →
        ∃ tk chs', SAt D ρ m' chs' (tk ++ C) h ∧ OV D ρ lim vs (o :: os') tk ∧ OkL (y :: ps) (o :: os') ∧ ∀ b, mg m' b ≠ .x → chs'[b]? = chs[b]? := by
        intro v vs' x' e1 e2 e3 hv' hl hn ho hvs
        subst e1 e2 e3
        obtain ⟨tk, c', M2, o2, k2, kk⟩ := ztj h2 M hvs
        exact ⟨tk, c', M2, .v hv' hl hn o2, .cons ho k2, kk⟩
       unfold pk1 at h1
       split at h1
       · -- int
         rename_i k k' n
         cases hb : z14 (zap k) (zap k') with
         | false => rw [hb] at h1; cases h1
         | true =>
           rw [hb] at h1
           cases h1
           have := zcr (z18 hb)
           subst this
           cases hv with | cons a n b => exact val rfl rfl rfl a (by simp [zae]) (by simp) hb b
       · cases h1; cases hv with | cons a n b => exact val rfl rfl rfl a (by simp [zae]) (by simp) rfl b
       · cases h1; cases hv with | cons a n b => exact val rfl rfl rfl a (by simp [zae]) (by simp) rfl b
       · rename_i sz sz' c
         cases hb : z14 sz sz' with
         | false => rw [hb] at h1; cases h1
         | true =>
           rw [hb] at h1
           cases h1
           have := z18 hb
           subst this
           cases hv with | cons a n b => exact val rfl rfl rfl a (by simp [zae]) (by simp) hb b
       · rename_i sz sz' c
         cases hb : z14 sz sz' with
         | false => rw [hb] at h1; cases h1
         | true =>
           rw [hb] at h1
           cases h1
           have := z18 hb
           subst this
           cases hv with | cons a n b => cases a with | c hr => exact val rfl rfl rfl (.u hr) (by simp [zae]) (by simp) hb b
       · rename_i sz
         cases h1
         cases hv with | cons a n b => cases a; exact val rfl rfl rfl (.u (.nil _ _ _)) (by simp [zae]) (by simp) (Nat.beq_refl _) b
       · cases h1; cases hv with | cons a n b => exact val rfl rfl rfl a (by simp [zae]) (by simp) rfl b
       · cases h1
         cases hv with
         | cons a n b =>
           obtain ⟨p, o, hr, hvv⟩ := a.q_inv
           exact val (by rw [hvv]; rfl) rfl rfl (.u hr) (by simp [zae]) (by simp) rfl b
       · rename_i nw k w' c
         cases hb : (z14 nw w' && z14 (zap k) 3) with
         | false => rw [hb] at h1; cases h1
         | true =>
           rw [hb] at h1
           cases h1
           simp only [z17] at hb
           have := z18 hb.1
           subst this
           have hk : k = .i64 := by
            have := hb.2
            cases k <;> first | rfl | simp [zap] at this
           subst hk
           cases hv with
           | cons a n b => exact absurd rfl (n _ _ _)
           | n hl b =>
             obtain ⟨tk, c', M2, o2, k2, kk⟩ := ztj h2 M b
             exact ⟨tk, c', M2, .n hl o2, .cons hb.1 k2, kk⟩
       · rename_i E sz j
         split at h1
         · rename_i E' sz' rows hm
           cases hb : (z14 E E' && z14 sz sz') with
           | false => rw [hb] at h1; cases h1
           | true =>
             rw [hb] at h1
             cases h1
             have hb' := hb
             simp only [z17] at hb'
             have e1 := z18 hb'.1
             have e2 := z18 hb'.2
             subst e1 e2
             cases hv with
             | cons a n b =>
               obtain ⟨L, ch, g1, g2, g3⟩ := M.get (b := j) (by rw [hm]; simp)
               obtain ⟨L', g4, rfl⟩ := a.w_inv
               rw [g1] at g4; cases g4
               rw [hm] at g3
               obtain ⟨tk, c', M2, o2, k2, kk⟩ := ztj h2 (M.take g1 g2) b
               refine ⟨ch :: tk, c', M2.perm ?_, .e g3 o2, .cons hb k2, zd0 (zfv h2) kk⟩
               simp only [z21, z2n, z3r]
               exact z3g _ _ _
         · cases h1
       · rename_i E sz
         cases h1
         cases hv with
         | cons a n b =>
           cases a
           obtain ⟨tk, c', M2, o2, k2, kk⟩ := ztj h2 M b
           exact ⟨[] :: tk, c', M2.perm (by simp), .e (L := ⟨0, none, 0, 0, none⟩) (.w .nil rfl) o2, .cons (by simp [zyd]) k2, kk⟩
       · rename_i j j'
         cases hb : (z14 j j' && z19 (j + 1) lim) with
         | false => rw [hb] at h1; cases h1
         | true =>
           rw [hb] at h1
           cases h1
           simp only [z17] at hb
           have e1 := z18 hb.1
           have e2 := z2w hb.2
           subst e1
           cases hv with | cons a n b => exact val rfl rfl rfl a (by simp [zae]; omega) (by simp) hb.1 b
       · rename_i j o j' o'
         cases hb : (z14 j j' && z14 o o' && z19 (j + 1) lim) with
         | false => rw [hb] at h1; cases h1
         | true =>
           rw [hb] at h1
           cases h1
           have hb' := hb
           simp only [z17] at hb'
           have e1 := z18 hb'.1.1
           have e3 := z18 hb'.1.2
           have e2 := z2w hb'.2
           subst e1 e3
           cases hv with | cons a n b => exact val rfl rfl rfl a (by simp [zae]; omega) (by simp) (by simp [zyd]) b
       · rename_i j j'
         cases hb : (z14 j j' && z19 (j + 1) lim) with
         | false => rw [hb] at h1; cases h1
         | true =>
           rw [hb] at h1
           cases h1
           simp only [z17] at hb
           have e1 := z18 hb.1
           have e2 := z2w hb.2
           subst e1
           cases hv with | cons a n b => exact val rfl rfl rfl a (by simp [zae]; omega) (by simp) hb.1 b
       · cases h1; cases hv with | cons a n b => exact val rfl rfl rfl a (by simp [zae]) (by simp) rfl b
       · cases h1
       · rename_i hne
         cases h1
         cases hv with
         | cons a n b => exact val rfl rfl rfl .z (by simp [zae]) (by simp) rfl b
         | n hl b => exact absurd rfl (hne _ _ _)
       · cases h1
     · cases hp
   · cases hp
def noC : AB → Bool
 | .c _ => false
 | .cw .. => false
 | _ => true
inductive OB (D : Fz) (ρ : List Loc) (lim : Nat) : List BP → List Nat → List It → List zab → Prop
 | nil : OB D ρ lim [] [] [] []
 | e {y : BP} {j : Nat} {ab : AB} {L : Loc} {ch : zab} {ps : List BP} {js : List Nat} {os : List It} {tk : List zab} : (∀ qs, y ≠ .c qs) → (ab ≠ .x → ρ[j]? = some L) → Ent D ρ L ab ch → noC ab = true → OB D ρ lim ps js os tk →
     OB D ρ lim (y :: ps) (j :: js) (.e ab :: os) (ch :: tk)
 | c {qs : List Pt} {j : Nat} {L : Loc} {S : TypeId} {arr : List Value} {o1 : List It} {t1 : List zab} {ps : List BP} {js : List Nat} {os : List It} {tk : List zab} : ρ[j]? = some L → OV D ρ lim arr o1 t1 → o1.length = qs.length → OB D ρ lim ps js os tk →
     OB D ρ lim (.c qs :: ps) (j :: js) (o1 ++ os) ([(L.b, .cells arr.toArray S (0, 0))] :: (t1 ++ tk))
theorem ztl {lim : Nat} : ∀ {ps : List BP} {js : List Nat} {m m' : Mem} {os : List It} {chs C : List zab}, pkB lim m ps js = some (os, m') → SAt D ρ m chs C h →
 ∃ tk chs', SAt D ρ m' chs' (tk ++ C) h ∧ OB D ρ lim ps js os tk ∧ OkL (ps.flatMap BP.ps) os ∧ ∀ b, mg m' b ≠ .x → chs'[b]? = chs[b]?
 | [], [], m, m', os, chs, C, hp, M => by cases hp; exact ⟨[], chs, M, .nil, .nil, fun _ _ => rfl⟩
 | [], _ :: _, m, m', os, chs, C, hp, M => by cases hp
 | _ :: _, [], m, m', os, chs, C, hp, M => by cases hp
 | y :: ps, j :: js, m, m', os, chs, C, hp, M => by
   simp only [pkB] at hp
   split at hp
   · rename_i o m1 h1
     split at hp
     · rename_i os' m2 h2
       cases hp
       have pm : ∀ {a b c : List zab}, (a ++ (b ++ c)).flatten.Perm (b ++ (a ++ c)).flatten := fun {a b c} => by simp only [z21]; exact z3g _ _ _
       cases y with
       | A =>
         simp only [z0c] at h1
         split at h1
         · rename_i I hm
           cases h1
           obtain ⟨L, ch, g1, g2, g3⟩ := M.get (b := j) (by rw [hm]; simp)
           rw [hm] at g3
           obtain ⟨tk, c', M2, o2, k2, kk⟩ := ztl h2 (M.take g1 g2)
           exact ⟨ch :: tk, c', M2.perm (pm (a := tk) (b := [ch])), .e (by simp) (fun _ => g1) g3 rfl o2, .cons rfl k2, zd0 (zcm h2) kk⟩
         · cases h1
       | X =>
         simp only [z0c] at h1
         cases h1
         obtain ⟨ch, M1, -⟩ := M.kill j
         obtain ⟨tk, c', M2, o2, k2, kk⟩ := ztl h2 M1
         have M3 : SAt D ρ m' c' ([] :: tk ++ C) h := by
          refine (M2.perm (pm (a := tk) (b := [ch]))).mono (.refl D) ?_
          have S := (M2.perm (pm (a := tk) (b := [ch]))).st
          have S1 : St D (ch :: (c' ++ (tk ++ C))) h := S.unmid
          have S2 := S1.drop.nil
          exact S2.mid
         refine ⟨[] :: tk, c', M3, .e (L := ⟨0, none, 0, 0, none⟩) (by simp) (fun hl => absurd rfl hl) .x rfl o2, .cons rfl k2, zd0 (zcm h2) kk⟩
       | row E sz =>
         simp only [z0c] at h1
         split at h1
         · rename_i E' sz' rows hm
           cases hb : (z14 E E' && z14 sz sz') with
           | false => rw [hb] at h1; cases h1
           | true =>
             rw [hb] at h1
             cases h1
             have hb' := hb
             simp only [z17] at hb'
             have e1 := z18 hb'.1
             have e2 := z18 hb'.2
             subst e1 e2
             obtain ⟨L, ch, g1, g2, g3⟩ := M.get (b := j) (by rw [hm]; simp)
             rw [hm] at g3
             obtain ⟨tk, c', M2, o2, k2, kk⟩ := ztl h2 (M.take g1 g2)
             exact ⟨ch :: tk, c', M2.perm (pm (a := tk) (b := [ch])), .e (by simp) (fun _ => g1) g3 rfl o2, .cons hb k2, zd0 (zcm h2) kk⟩
         · cases h1
       | mp kt sz ag =>
         simp only [z0c] at h1
         split at h1
         · rename_i kt' sz' ag' rows hm
           cases hb : (zxl kt kt' && z14 sz sz' && (ag == ag')) with
           | false => rw [hb] at h1; cases h1
           | true =>
             rw [hb] at h1
             cases h1
             have hb' := hb
             simp only [z17, beq_iff_eq] at hb'
             have e1 := zfz hb'.1.1
             have e2 := z18 hb'.1.2
             have e3 := hb'.2
             subst e1 e2 e3
             obtain ⟨L, ch, g1, g2, g3⟩ := M.get (b := j) (by rw [hm]; simp)
             rw [hm] at g3
             obtain ⟨tk, c', M2, o2, k2, kk⟩ := ztl h2 (M.take g1 g2)
             exact ⟨ch :: tk, c', M2.perm (pm (a := tk) (b := [ch])), .e (by simp) (fun _ => g1) g3 rfl o2, .cons hb k2, zd0 (zcm h2) kk⟩
         · cases h1
       | c qs =>
         simp only [z0c] at h1
         split at h1
         · rename_i l hm
           obtain ⟨L, ch, g1, g2, g3⟩ := M.get (b := j) (by rw [hm]; simp)
           rw [hm] at g3
           cases g3 with
           | c hc =>
             rename_i arr S
             obtain ⟨t1, c1, M1, o1, k1, kk1⟩ := ztj h1 (M.take g1 g2) hc
             obtain ⟨tk, c', M2, o2, k2, kk⟩ := ztl h2 M1
             refine ⟨[(L.b, .cells arr.toArray S (0, 0))] :: (t1 ++ tk), c', M2.perm ?_, .c g1 o1 (k1.len) o2, k1.app k2, zd0 (fun b => by
              rcases zcm h2 b with h3 | h3
              · rcases zfv h1 b with h4 | h4
                · exact .inl (h3.trans h4)
                · exact .inr (h3.trans h4)
              · exact .inr h3) fun b hb => by
              have h5 : mg m1 b ≠ .x := by
               rcases zcm h2 b with h3 | h3
               · rw [← h3]; exact hb
               · exact absurd h3 hb
              rw [kk b hb, kk1 b h5]⟩
             have pp : ∀ {X Y Z : zab} {b : Nat × Obj}, (X ++ (Y ++ (b :: Z))).Perm (b :: (Y ++ (X ++ Z))) := fun {X Y Z b} => by
              rw [← z2m]
              exact z4z.trans (by rw [z2m]; exact (z3g _ _ _).cons _)
             simpa [z21, z2m] using pp (X := tk.flatten) (Y := t1.flatten) (Z := C.flatten) (b := (L.b, .cells arr.toArray S (0, 0)))
         · cases h1
     · cases hp
   · cases hp
inductive OR (D : Fz) (ρ : List Loc) (lim : Nat) : List Value → List RP → List It → List zab → Prop
 | nil : OR D ρ lim [] [] [] []
 | one {y : Pt} {v : Value} {o1 : List It} {t1 : List zab} {vs : List Value} {rs : List RP} {os : List It} {tk : List zab} : OV D ρ lim [v] o1 t1 → o1.length = 1 → (∀ k w l, o1 ≠ [.v (.n k w l)]) → OR D ρ lim vs rs os tk → OR D ρ lim (v :: vs) (.one y :: rs) (o1 ++ os) (t1 ++ tk)
 | agg {qs : List Pt} {ws : List Value} {o1 : List It} {t1 : List zab} {vs : List Value} {rs : List RP} {os : List It} {tk : List zab} : OV D ρ lim ws o1 t1 → o1.length = qs.length → OR D ρ lim vs rs os tk → OR D ρ lim (.agg ws.toArray :: vs) (.agg qs :: rs) (o1 ++ os) (t1 ++ tk)
theorem rp_n {v : Value} {x : V} (hv : Rp D ρ v x) : ∀ k w l, x ≠ .n k w l := by intro k w l e; subst e; cases hv
theorem pk1_n {lim : Nat} {y : Pt} {x : V} {i : It} {m1 : Mem} (h1 : pk1 lim m y x = some (i, m1)) (hx : ∀ k w l, x ≠ .n k w l) : ∀ k w l, i ≠ .v (.n k w l) := by
 intro k w l e
 subst e
 unfold pk1 at h1
 split at h1 <;> first
  | exact hx _ _ _ rfl
  | (cases h1; done)
  | (revert h1; cases z14 _ _ <;> simp; done)
  | (revert h1; cases (z14 _ _ && z19 _ _) <;> simp; done)
  | (revert h1; cases (z14 _ _ && z14 _ _ && z19 _ _) <;> simp; done)
  | (split at h1 <;> first | (cases h1; done) | (revert h1; cases (z14 _ _ && z14 _ _) <;> simp; done))
theorem pkV_n {lim : Nat} : ∀ {ps : List Pt} {xs : List V} {m m' : Mem} {os : List It}, pkV lim m ps xs = some (os, m') → (∀ x ∈ xs, ∀ k w l, x ≠ .n k w l) → ∀ i ∈ os, ∀ k w l, i ≠ .v (.n k w l)
 | [], [], m, m', os, hp, hx => by cases hp; simp
 | [], _ :: _, m, m', os, hp, hx => by cases hp
 | _ :: _, [], m, m', os, hp, hx => by cases hp
 | y :: ps, x :: xs, m, m', os, hp, hx => by
   simp only [pkV] at hp
   split at hp
   · rename_i o m1 h1
     split at hp
     · rename_i os' m2 h2
       cases hp
       intro i hi
       rcases z2e.1 hi with rfl | hi
       · exact pk1_n h1 (hx x (by simp))
       · exact pkV_n h2 (fun x hx' => hx x (by simp [hx'])) i hi
     · cases hp
   · cases hp
theorem zg3 {lim : Nat} : ∀ {rs : List RP} {xs : List V} {m m' : Mem} {os : List It}, pkR lim m rs xs = some (os, m') → ∀ b, mg m' b = mg m b ∨ mg m' b = .x
 | [], [], m, m', os, hp => by cases hp; exact fun b => .inl rfl
 | [], _ :: _, m, m', os, hp => by cases hp
 | .one y :: rs, [], m, m', os, hp => by cases hp
 | .agg qs :: rs, [], m, m', os, hp => by cases hp
 | .one y :: rs, x :: xs, m, m', os, hp => by
   simp only [pkR] at hp
   split at hp
   · rename_i o m1 h1
     split at hp
     · rename_i os' m2 h2
       cases hp
       intro b
       rcases zg3 h2 b with h3 | h3
       · rcases zfv h1 b with h4 | h4
         · exact .inl (h3.trans h4)
         · exact .inr (h3.trans h4)
       · exact .inr h3
     · cases hp
   · cases hp
 | .agg qs :: rs, x :: xs, m, m', os, hp => by
   cases x with
   | a l =>
     simp only [pkR] at hp
     split at hp
     · rename_i o m1 h1
       split at hp
       · rename_i os' m2 h2
         cases hp
         intro b
         rcases zg3 h2 b with h3 | h3
         · rcases zfv h1 b with h4 | h4
           · exact .inl (h3.trans h4)
           · exact .inr (h3.trans h4)
         · exact .inr h3
       · cases hp
     · cases hp
   | _ => simp [pkR] at hp
theorem pkR_S {lim : Nat} : ∀ {rs : List RP} {xs : List V} {m m' : Mem} {os : List It} {vs : List Value} {chs C : List zab}, pkR lim m rs xs = some (os, m') → SAt D ρ m chs C h → RpL D ρ vs xs →
 ∃ tk chs', SAt D ρ m' chs' (tk ++ C) h ∧ OR D ρ lim vs rs os tk ∧ OkL (rs.flatMap RP.ps) os ∧ ∀ b, mg m' b ≠ .x → chs'[b]? = chs[b]?
 | [], [], m, m', os, vs, chs, C, hp, M, hv => by cases hp; cases hv; exact ⟨[], chs, M, .nil, .nil, fun _ _ => rfl⟩
 | [], _ :: _, m, m', os, vs, chs, C, hp, M, hv => by cases hp
 | .one y :: rs, [], m, m', os, vs, chs, C, hp, M, hv => by cases hp
 | .agg qs :: rs, [], m, m', os, vs, chs, C, hp, M, hv => by cases hp
 | .one y :: rs, x :: xs, m, m', os, vs, chs, C, hp, M, hv => by
   simp only [pkR] at hp
   split at hp
   · rename_i o m1 h1
     split at hp
     · rename_i os' m2 h2
       cases hp
       cases hv with
       | cons a b =>
         obtain ⟨t1, c1, M1, o1, k1, kk1⟩ := ztj h1 M (.cons a (rp_n a) .nil)
         obtain ⟨tk, c', M2, o2, k2, kk⟩ := pkR_S h2 M1 b
         refine ⟨t1 ++ tk, c', M2.perm ?_, .one o1 k1.len (fun k w l e => pkV_n h1 (fun x hx => by rw [z3v.1 hx]; exact rp_n a) (.v (.n k w l)) (by rw [e]; simp) _ _ _ rfl) o2, k1.app k2, fun b hb => by
          have h5 : mg m1 b ≠ .x := by
           rcases zg3 h2 b with h3 | h3
           · rw [← h3]; exact hb
           · exact absurd h3 hb
          rw [kk b hb, kk1 b h5]⟩
         simp only [z21, z2m]
         exact z3g _ _ _
     · cases hp
   · cases hp
 | .agg qs :: rs, x :: xs, m, m', os, vs, chs, C, hp, M, hv => by
   cases x with
   | a l =>
     simp only [pkR] at hp
     split at hp
     · rename_i o m1 h1
       split at hp
       · rename_i os' m2 h2
         cases hp
         cases hv with
         | cons a b =>
           obtain ⟨ws, rfl, hc⟩ := a.a_inv
           obtain ⟨t1, c1, M1, o1, k1, kk1⟩ := ztj h1 M hc
           obtain ⟨tk, c', M2, o2, k2, kk⟩ := pkR_S h2 M1 b
           refine ⟨t1 ++ tk, c', M2.perm ?_, .agg o1 k1.len o2, k1.app k2, fun b hb => by
           have h5 : mg m1 b ≠ .x := by
            rcases zg3 h2 b with h3 | h3
            · rw [← h3]; exact hb
            · exact absurd h3 hb
           rw [kk b hb, kk1 b h5]⟩
           simp only [z21, z2m]
           exact z3g _ _ _
       · cases hp
     · cases hp
   | _ => simp [pkR] at hp
def Ren (f : Nat → Nat) (lim : Nat) (ρ ρ' : List Loc) : Prop := ∀ b, b < lim → ∀ L, ρ[b]? = some L → ρ'[f b]? = some L
theorem Ren.app {f : Nat → Nat} {lim : Nat} (r : Ren f lim ρ ρ') (s : List Loc) : Ren f lim ρ (ρ' ++ s) := fun b hb L hL => zan (r b hb L hL)
section
variable {f : Nat → Nat}
theorem ren_all : (∀ {v : Value} {x : V}, Rp D ρ v x → (∀ b ∈ zae x, ∀ L, ρ[b]? = some L → ρ'[f b]? = some L) → Rp D ρ' v (zcf f x)) ∧ (∀ {v : List Value} {x : List V}, RpL D ρ v x → (∀ b ∈ zam x, ∀ L, ρ[b]? = some L → ρ'[f b]? = some L) → RpL D ρ' v (zd8 f x)) ∧
 (∀ {v : List Value} {x : List V}, RpC D ρ v x → (∀ b ∈ zam x, ∀ L, ρ[b]? = some L → ρ'[f b]? = some L) → RpC D ρ' v (zd8 f x)) := by
 have key := @Rp.rec D ρ (fun v x _ => (∀ b ∈ zae x, ∀ L, ρ[b]? = some L → ρ'[f b]? = some L) → Rp D ρ' v (zcf f x)) (fun vs xs _ => (∀ b ∈ zam xs, ∀ L, ρ[b]? = some L → ρ'[f b]? = some L) → RpL D ρ' vs (zd8 f xs))
  (fun vs xs _ => (∀ b ∈ zam xs, ∀ L, ρ[b]? = some L → ρ'[f b]? = some L) → RpC D ρ' vs (zd8 f xs))
 have keyL := @RpL.rec D ρ (fun v x _ => (∀ b ∈ zae x, ∀ L, ρ[b]? = some L → ρ'[f b]? = some L) → Rp D ρ' v (zcf f x)) (fun vs xs _ => (∀ b ∈ zam xs, ∀ L, ρ[b]? = some L → ρ'[f b]? = some L) → RpL D ρ' vs (zd8 f xs))
  (fun vs xs _ => (∀ b ∈ zam xs, ∀ L, ρ[b]? = some L → ρ'[f b]? = some L) → RpC D ρ' vs (zd8 f xs))
 have keyC := @RpC.rec D ρ (fun v x _ => (∀ b ∈ zae x, ∀ L, ρ[b]? = some L → ρ'[f b]? = some L) → Rp D ρ' v (zcf f x)) (fun vs xs _ => (∀ b ∈ zam xs, ∀ L, ρ[b]? = some L → ρ'[f b]? = some L) → RpL D ρ' vs (zd8 f xs))
  (fun vs xs _ => (∀ b ∈ zam xs, ∀ L, ρ[b]? = some L → ρ'[f b]? = some L) → RpC D ρ' vs (zd8 f xs))
 have A1 : ∀ {v : Value} {x : U} (a : Rd D v x), (∀ b ∈ zae (.u x), ∀ L, ρ[b]? = some L → ρ'[f b]? = some L) → Rp D ρ' v (zcf f (.u x)) := fun h _ => .u h
 have A2 : ∀ {b o : Nat} {L : Loc} (a : ρ[b]? = some L), (∀ c ∈ zae (.r b o), ∀ L, ρ[c]? = some L → ρ'[f c]? = some L) → Rp D ρ' (.pointer (some ⟨L.b, o, none⟩)) (zcf f (.r b o)) := fun h g => .r (g _ (by simp [zae]) _ h)
 have A3 : ∀ {b sz o p q : Nat} {k : Int} {L : Loc} (a : ρ[b]? = some L) (a1 : L.a = some ⟨p, q, none⟩) (a2 : 0 ≤ k) (a3 : k < L.n), (∀ c ∈ zae (.e b sz k o), ∀ L, ρ[c]? = some L → ρ'[f c]? = some L) → Rp D ρ' (.pointer (some ⟨p, q + k.toNat * sz + o, none⟩)) (zcf f (.e b sz k o)) :=
  fun h1 h2 h3 h4 g => .e (g _ (by simp [zae]) _ h1) h2 h3 h4
 have A4 : ∀ {b o w : Nat} {k : Int} {L : Loc} (a : ρ[b]? = some L) (a1 : 0 ≤ k) (a2 : k < w), (∀ c ∈ zae (.g b o w k), ∀ L, ρ[c]? = some L → ρ'[f c]? = some L) → Rp D ρ' (.pointer (some ⟨L.b, o + k.toNat, none⟩)) (zcf f (.g b o w k)) :=
  fun h1 h2 h3 g => .g (g _ (by simp [zae]) _ h1) h2 h3
 have A5 : ∀ {c : List U} {p o o' : Nat} (a : Rd D (.pointer (some ⟨p, o, none⟩)) (.p (some c))) (a1 : o' = o) (n : Nat), (∀ b ∈ zae (.q c n), ∀ L, ρ[b]? = some L → ρ'[f b]? = some L) → Rp D ρ' (.pointer (some ⟨p, o' + n, none⟩)) (zcf f (.q c n)) := fun h1 h2 n _ => .q h1 h2 n
 have A6 : ∀ {b : Nat} {L : Loc} (a : ρ[b]? = some L), (∀ c ∈ zae (.w b), ∀ L, ρ[c]? = some L → ρ'[f c]? = some L) → Rp D ρ' (.slice L.a L.n L.c) (zcf f (.w b)) := fun h g => .w (g _ (by simp [zae]) _ h)
 have A7 : ∀ {a : Option Addr} {n sz : Nat} {rows : List (List U)} (a1 : Rd D (.slice a n n) (.l sz rows)), (∀ b ∈ zae (.c sz rows), ∀ L, ρ[b]? = some L → ρ'[f b]? = some L) → Rp D ρ' (.slice a n n) (zcf f (.c sz rows)) := fun h _ => .c h
 have A8 : ∀ {b : Nat} {L : Loc} (a : ρ[b]? = some L), (∀ c ∈ zae (.m b), ∀ L, ρ[c]? = some L → ρ'[f c]? = some L) → Rp D ρ' (.map (some L.b)) (zcf f (.m b)) := fun h g => .m (g _ (by simp [zae]) _ h)
 have A9 : ∀ {b : Nat} {L : Loc} (a : ρ[b]? = some L), (∀ c ∈ zae (.y b), ∀ L, ρ[c]? = some L → ρ'[f c]? = some L) → Rp D ρ' (.func (.yield L.b) #[] #[]) (zcf f (.y b)) := fun h g => .y (g _ (by simp [zae]) _ h)
 have A10 : ∀ {b sz l n cap : Nat} {c : Bool} {a : Option Addr} {L : Loc} (a1 : ρ[b]? = some L) (a2 : l + n ≤ L.n) (a3 : l = 0 → a = L.a) (a4 : 0 < n → ∃ p q, L.a = some ⟨p, q, none⟩ ∧ a = some ⟨p, q + l * sz, none⟩) (a5 : n ≤ cap) (a6 : c = true → cap = n) (a7 : c = false → l = 0 → cap = L.c),
  (∀ d ∈ zae (.v b sz l n c), ∀ L, ρ[d]? = some L → ρ'[f d]? = some L) → Rp D ρ' (.slice a n cap) (zcf f (.v b sz l n c)) := fun h1 h2 h3 h4 h5 h6 h7 g => .v (g _ (by simp [zae]) _ h1) h2 h3 h4 h5 h6 h7
 have A11 : ∀ {b o n cap : Nat} {a : Option Addr} {L : Loc} (a1 : ρ[b]? = some L) (a2 : 0 < n → a = some ⟨L.b, o, none⟩) (a3 : n ≤ cap), (∀ d ∈ zae (.sl b o n), ∀ L, ρ[d]? = some L → ρ'[f d]? = some L) → Rp D ρ' (.slice a n cap) (zcf f (.sl b o n)) :=
  fun h1 h2 h3 g => .sl (g _ (by simp [zae]) _ h1) h2 h3
 have B1 : ∀ {g : FuncId} {xs ys : List Value} {a c : List V} (a1 : RpL D ρ xs a) (a2 : RpL D ρ ys c), ((∀ b ∈ zam a, ∀ L, ρ[b]? = some L → ρ'[f b]? = some L) → RpL D ρ' xs (zd8 f a)) → ((∀ b ∈ zam c, ∀ L, ρ[b]? = some L → ρ'[f b]? = some L) → RpL D ρ' ys (zd8 f c)) →
  (∀ b ∈ zae (.f g a c), ∀ L, ρ[b]? = some L → ρ'[f b]? = some L) → Rp D ρ' (.func (.func g) xs.toArray ys.toArray) (zcf f (.f g a c)) := fun _ _ i1 i2 g => .f (i1 fun b hb => g b (by simp [zae, hb])) (i2 fun b hb => g b (by simp [zae, hb]))
 have B2 : ∀ {vs : List Value} {l : List V} (a : RpC D ρ vs l), ((∀ b ∈ zam l, ∀ L, ρ[b]? = some L → ρ'[f b]? = some L) → RpC D ρ' vs (zd8 f l)) → (∀ b ∈ zae (.a l), ∀ L, ρ[b]? = some L → ρ'[f b]? = some L) → Rp D ρ' (.agg vs.toArray) (zcf f (.a l)) := fun _ i g => .a (i g)
 have B3 : ∀ {vs : List Value} {l : List V} (a : RpL D ρ vs l), ((∀ b ∈ zam l, ∀ L, ρ[b]? = some L → ρ'[f b]? = some L) → RpL D ρ' vs (zd8 f l)) → (∀ b ∈ zae (.t l), ∀ L, ρ[b]? = some L → ρ'[f b]? = some L) → Rp D ρ' (.tuple vs.toArray) (zcf f (.t l)) := fun _ i g => .t (i g)
 have C1 : ∀ {v : Value} {x : V} {vs : List Value} {xs : List V} (a : Rp D ρ v x) (a1 : RpL D ρ vs xs), ((∀ b ∈ zae x, ∀ L, ρ[b]? = some L → ρ'[f b]? = some L) → Rp D ρ' v (zcf f x)) → ((∀ b ∈ zam xs, ∀ L, ρ[b]? = some L → ρ'[f b]? = some L) → RpL D ρ' vs (zd8 f xs)) →
  (∀ b ∈ zam (x :: xs), ∀ L, ρ[b]? = some L → ρ'[f b]? = some L) → RpL D ρ' (v :: vs) (zd8 f (x :: xs)) := fun _ _ i1 i2 g => .cons (i1 fun b hb => g b (by simp [zam, hb])) (i2 fun b hb => g b (by simp [zam, hb]))
 have C2 : ∀ {v : Value} {x : V} {vs : List Value} {xs : List V} (a : Rp D ρ v x) (a0 : ∀ k w l, x ≠ .n k w l) (a1 : RpC D ρ vs xs), ((∀ b ∈ zae x, ∀ L, ρ[b]? = some L → ρ'[f b]? = some L) → Rp D ρ' v (zcf f x)) → ((∀ b ∈ zam xs, ∀ L, ρ[b]? = some L → ρ'[f b]? = some L) → RpC D ρ' vs (zd8 f xs)) →
  (∀ b ∈ zam (x :: xs), ∀ L, ρ[b]? = some L → ρ'[f b]? = some L) → RpC D ρ' (v :: vs) (zd8 f (x :: xs)) := fun a hn _ i1 i2 g => .cons (i1 fun b hb => g b (by simp [zam, hb])) (rp_n (i1 fun b hb => g b (by simp [zam, hb]))) (i2 fun b hb => g b (by simp [zam, hb]))
 have C3 : ∀ {k : IntKind} {w : Nat} {l : List Int} {vs : List Value} {xs : List V} (a : l.length = w) (a1 : RpC D ρ vs xs), ((∀ b ∈ zam xs, ∀ L, ρ[b]? = some L → ρ'[f b]? = some L) → RpC D ρ' vs (zd8 f xs)) → (∀ b ∈ zam (.n k w l :: xs), ∀ L, ρ[b]? = some L → ρ'[f b]? = some L) →
  RpC D ρ' (l.map (.int k) ++ vs) (zd8 f (.n k w l :: xs)) := fun hl _ i g => .n hl (i fun b hb => g b (by simp [zam, hb]))
 exact ⟨fun hr => key A1 A2 A3 A4 A5 A6 A7 A8 (fun _ => .nm) (fun _ => .nl) B1 B2 B3 (fun _ => .z) A9 A10 A11 (fun _ => .nil) C1 (fun _ => .nil) C2 C3 hr,
  fun hr => keyL A1 A2 A3 A4 A5 A6 A7 A8 (fun _ => .nm) (fun _ => .nl) B1 B2 B3 (fun _ => .z) A9 A10 A11 (fun _ => .nil) C1 (fun _ => .nil) C2 C3 hr,
  fun hr => keyC A1 A2 A3 A4 A5 A6 A7 A8 (fun _ => .nm) (fun _ => .nl) B1 B2 B3 (fun _ => .z) A9 A10 A11 (fun _ => .nil) C1 (fun _ => .nil) C2 C3 hr⟩
end
theorem zno {lim : Nat} {f : Nat → Nat} : ∀ {n : Nat} {vs : List Value} {o1 r : List It} {t1 : List zab} {mt : Mem} {ρt : List Loc} {ct C : List zab}, OV D ρ lim vs o1 t1 → o1.length = n → SAt D ρt mt ct (t1 ++ C) h → Ren f lim ρ ρt →
 ∃ s ms cs, (zf8 f mt n (o1 ++ r)).2.1 = r ∧ (zf8 f mt n (o1 ++ r)).2.2 = mt ++ ms ∧ SAt D (ρt ++ s) (mt ++ ms) (ct ++ cs) C h ∧ RpC D (ρt ++ s) vs (zf8 f mt n (o1 ++ r)).1
 | 0, vs, o1, r, t1, mt, ρt, ct, C, ho, hn, M, R => by
   cases ho <;> simp at hn
   exact ⟨[], [], [], rfl, by simp [zf8], by simpa using M, by simp [zf8]; exact .nil⟩
 | n + 1, vs, o1, r, t1, mt, ρt, ct, C, ho, hn, M, R => by
   cases ho with
   | nil => simp at hn
   | v hv hl hnn ho =>
     obtain ⟨s, ms, cs, e1, e2, M1, r1⟩ := zno (r := r) ho (by simpa using hn) M R
     have hv2 := (ren_all.1 hv fun b hb L hL => R b (hl b hb) L hL).mono (.refl D) s
     refine ⟨s, ms, cs, ?_, ?_, M1, ?_⟩
     · simpa [zf8, itV] using e1
     · simpa [zf8, itV] using e2
     · simp only [zf8, itV, z3r]; exact .cons hv2 (rp_n hv2) r1
   | n hw ho =>
     obtain ⟨s, ms, cs, e1, e2, M1, r1⟩ := zno (r := r) ho (by simpa using hn) M R
     refine ⟨s, ms, cs, ?_, ?_, M1, ?_⟩
     · simpa [zf8, itV] using e1
     · simpa [zf8, itV] using e2
     · simp only [zf8, itV, z3r]; exact .n hw r1
   | e he ho =>
     rename_i L E sz rows ch vs' os' tk'
     have M0 : SAt D (ρt ++ [L]) (mt ++ [.w E sz rows]) (ct ++ [ch]) (tk' ++ C) h := by
      have M' : SAt D ρt mt ct (ch :: (tk' ++ C)) h := M
      exact M'.push (by cases he with | w a b => exact .w a b)
     obtain ⟨s, ms, cs, e1, e2, M1, r1⟩ := zno (r := r) ho (by simpa using hn) M0 (R.app _)
     refine ⟨L :: s, .w E sz rows :: ms, ch :: cs, ?_, ?_, by simpa using M1, ?_⟩
     · simpa [zf8, itV] using e1
     · have := e2; simp only [z2m, List.singleton_append] at this; simpa [zf8, itV] using this
     · simp only [zf8, itV, z3r]
       refine .cons (.w ?_) (by simp) (by simpa using r1)
       rw [← M.len]; simp
theorem RpC.one {vs : List Value} {y : V} (hr : RpC D ρ vs [y]) (hy : ∀ k w l, y ≠ .n k w l) : ∃ v, vs = [v] ∧ Rp D ρ v y := by
 cases hr with
 | cons a n b => cases b; exact ⟨_, rfl, a⟩
 | n => exact absurd rfl (hy _ _ _)
theorem reR_S {lim : Nat} {f : Nat → Nat} : ∀ {rs : List RP} {vs : List Value} {o1 r : List It} {t1 : List zab} {mt : Mem} {ρt : List Loc} {ct C : List zab}, OR D ρ lim vs rs o1 t1 → SAt D ρt mt ct (t1 ++ C) h → Ren f lim ρ ρt →
 ∃ s ms cs, (reR f mt rs (o1 ++ r)).2.1 = r ∧ (reR f mt rs (o1 ++ r)).2.2 = mt ++ ms ∧ SAt D (ρt ++ s) (mt ++ ms) (ct ++ cs) C h ∧ RpL D (ρt ++ s) vs (reR f mt rs (o1 ++ r)).1
 | [], vs, o1, r, t1, mt, ρt, ct, C, ho, M, R => by
   cases ho
   exact ⟨[], [], [], rfl, by simp [reR], by simpa using M, by simp [reR]; exact .nil⟩
 | .one y :: rs, vs, o1, r, t1, mt, ρt, ct, C, ho, M, R => by
   cases ho with
   | one ov hl hnn ho =>
     rename_i v o1 t1 vs os tk
     rw [z2m] at M
     obtain ⟨s, ms, cs, e1, e2, M1, r1⟩ := zno (r := os ++ r) ov hl M R
     obtain ⟨s2, ms2, cs2, e3, e4, M2, r2⟩ := reR_S (r := r) ho M1 (R.app s)
     refine ⟨s ++ s2, ms ++ ms2, cs ++ cs2, ?_, ?_, by simpa using M2, ?_⟩
     · simp only [reR, z2m, e1, e2, e3]
     · simp only [reR, z2m, e1, e2, e4]
     · simp only [reR, z2m, e1, e2]
       have h1 := r1.mono (.refl D) s2
       obtain ⟨i, rfl⟩ := List.length_eq_one_iff.1 hl
       have hy : ∀ k w l, (itV f mt i).1 ≠ .n k w l := by
        intro k w l
        cases i with
        | e ab => simp [itV]
        | v x => cases x <;> simp [itV, zcf]; exact fun _ _ _ => hnn _ _ _ rfl
       obtain ⟨v', hv, hr⟩ := RpC.one (y := (itV f mt i).1) h1 hy
       cases hv
       rw [z2m] at hr r2
       exact .cons hr r2
 | .agg qs :: rs, vs, o1, r, t1, mt, ρt, ct, C, ho, M, R => by
   cases ho with
   | agg ov hl ho =>
     rename_i ws o1 t1 vs os tk
     rw [z2m] at M
     obtain ⟨s, ms, cs, e1, e2, M1, r1⟩ := zno (r := os ++ r) ov hl M R
     obtain ⟨s2, ms2, cs2, e3, e4, M2, r2⟩ := reR_S (r := r) ho M1 (R.app s)
     refine ⟨s ++ s2, ms ++ ms2, cs ++ cs2, ?_, ?_, by simpa using M2, ?_⟩
     · simp only [reR, z2m, e1, e2, e3]
     · simp only [reR, z2m, e1, e2, e4]
     · simp only [reR, z2m, e1, e2]
       have h1 := r1.mono (.refl D) s2
       rw [z2m] at h1 r2
       exact .cons (.a h1) r2
end
section
variable {P : Program} {D D' : Fz} {ρ ρ' : List Loc} {m m' : Mem} {chs C : List zab} {h h' : zac} {T : List Value} {t : List V} {ro hr : List Nat}
theorem Ent.any {L : Loc} {ab : AB} {ch : zab} (he : Ent D ρ L ab ch) (hn : noC ab = true) : Ent D ρ' L ab ch := by
 cases he with
 | c => cases hn
 | cw => cases hn
 | w a b => exact .w a b
 | o a => exact .o a
 | p a b c => exact .p a b c
 | tk a => exact .tk a
 | x => exact .x
theorem SAt.over {ch : zab} (M : SAt D ρ m chs (ch :: C) h) {b : Nat} {L : Loc} {ab : AB} (hb : b < m.length) (hL : ρ[b]? = some L) (he : Ent D ρ L ab ch) : SAt D ρ (ms m b ab) (chs.set b ch) C h := by
 have hlt : b < chs.length := by rw [M.lch]; exact hb
 have hc : chs[b]? = some chs[b] := z2c hlt
 refine M.put (C' := C) hL hc ?_ (.refl D) he
 have S1 := (M.front hc).drop
 rw [z4k hlt] at S1 ⊢
 exact S1.unmid
theorem reB_S {lim : Nat} {f : Nat → Nat} : ∀ {ps : List BP} {js bs : List Nat} {os : List It} {tk : List zab} {mt : Mem} {ρt : List Loc} {ct C : List zab}, OB D ρ lim ps js os tk → SAt D ρt mt ct (tk ++ C) h → Ren f lim ρ ρt → bs.length = ps.length →
 (∀ (i j b : Nat), js[i]? = some j → bs[i]? = some b → b < mt.length ∧ ∀ L, ρ[j]? = some L → ρt[b]? = some L) →
 ∃ s c2, SAt D (ρt ++ s) (reB f mt ps bs os) c2 C h ∧ mt.length ≤ (reB f mt ps bs os).length ∧ ∀ b, b < mt.length → b ∉ bs → mg (reB f mt ps bs os) b = mg mt b ∧ c2[b]? = ct[b]?
 | [], js, bs, os, tk, mt, ρt, ct, C, ho, M, R, hl, hj => by
   cases ho
   have : bs = [] := z3w hl
   subst this
   exact ⟨[], ct, by simpa [reB] using M, z2r _, fun b _ _ => ⟨rfl, rfl⟩⟩
 | y :: ps, js, [], os, tk, mt, ρt, ct, C, ho, M, R, hl, hj => by simp at hl
 | y :: ps, js, b :: bs, os, tk, mt, ρt, ct, C, ho, M, R, hl, hj => by
   cases ho with
   | e hy hL he hn ho =>
     rename_i j ab L ch js os tk
     obtain ⟨hb, hjb⟩ := hj 0 j b rfl rfl
     have hbρ : b < ρt.length := by rw [M.len]; exact hb
     have M1 : SAt D ρt (ms mt b ab) (ct.set b ch) (tk ++ C) h := by
      by_cases hx : ab = .x
      · subst hx
        have : ch = [] := by cases he; rfl
        subst this
        exact SAt.over (C := tk ++ C) M hb (z2c hbρ) .x
      · exact SAt.over (C := tk ++ C) M hb (hjb L (hL hx)) (he.any hn)
     obtain ⟨s, c2, M2, g1, g2⟩ := reB_S (f := f) ho M1 R (by simpa using hl) (fun i j' b' h1 h2 => by
      have := hj (i + 1) j' b' (by simpa using h1) (by simpa using h2)
      rw [zb4]; exact this)
     have e : reB f mt (y :: ps) (b :: bs) (.e ab :: os) = reB f (ms mt b ab) ps bs os := by
      cases y <;> first | rfl | exact absurd rfl (hy _)
     rw [e]
     rw [zb4] at g1 g2
     refine ⟨s, c2, M2, g1, fun b' h1 h2 => ?_⟩
     simp only [z2e, not_or] at h2
     obtain ⟨g3, g4⟩ := g2 b' h1 h2.2
     rw [g3, g4, zbh (Ne.symm h2.1), z23 (Ne.symm h2.1)]
     exact ⟨rfl, rfl⟩
   | c hL ov hl1 ho =>
     rename_i qs j L S arr o1 t1 js os tk
     obtain ⟨hb, hjb⟩ := hj 0 j b rfl rfl
     have Mp : SAt D ρt mt ct (t1 ++ ([(L.b, .cells arr.toArray S (0, 0))] :: (tk ++ C))) h := M.perm (by
      simp only [z21, z2n, z3r, z3f, z2m]
      exact z4z.symm)
     obtain ⟨s, ns, cs, e1, e2, M1, r1⟩ := zno (r := os) ov hl1 Mp R
     have hb2 : b < (mt ++ ns).length := by simp; omega
     have M2 := M1.over (ab := .c (zf8 f mt qs.length (o1 ++ os)).1) hb2 (zan (hjb L hL)) (.c r1)
     obtain ⟨s2, c2, M3, g1, g2⟩ := reB_S (f := f) ho M2 (R.app s) (by simpa using hl) (fun i j' b' h1 h2 => by
      obtain ⟨h3, h4⟩ := hj (i + 1) j' b' (by simpa using h1) (by simpa using h2)
      rw [zb4]
      exact ⟨by simp; omega, fun L hL => zan (h4 L hL)⟩)
     have e : reB f mt (.c qs :: ps) (b :: bs) (o1 ++ os) = reB f (ms (mt ++ ns) b (.c (zf8 f mt qs.length (o1 ++ os)).1)) ps bs os := by
      simp only [reB, e1, e2]
     rw [e]
     rw [zb4] at g1 g2
     refine ⟨s ++ s2, c2, by simpa using M3, by simp at g1; omega, fun b' h1 h2 => ?_⟩
     simp only [z2e, not_or] at h2
     obtain ⟨g3, g4⟩ := g2 b' (by simp; omega) h2.2
     rw [g3, g4, zbh (Ne.symm h2.1), z23 (Ne.symm h2.1), zni h1, z2k (by rw [M.lch]; exact h1)]
     exact ⟨rfl, rfl⟩
theorem zvy : ∀ {xs ys : List V} {vs : List Value} {m m' : Mem} {D : Fz} {chs : List zab}, frzV.frzC (hr ++ ro) m xs = some (ys, m') → SAt D ρ m chs C h → RpC D ρ vs xs →
 ∃ D' chs', Nx ro hr D ρ m chs D' ρ m' chs' ∧ SAt D' ρ m' chs' C h ∧ RpC D' ρ vs ys
 | [], ys, vs, m, m', D, chs, hs, M, hv => by simp only [frzV.frzC, Option.some.injEq, Prod.mk.injEq] at hs; obtain ⟨rfl, rfl⟩ := hs; exact ⟨D, chs, .refl, M, hv⟩
 | x :: xs, ys, vs, m, m', D, chs, hs, M, hv => by
   have other : ∀ {l' : List V} {m2 : Mem}, frzV.frzC (hr ++ ro) m xs = some (l', m2) → ys = x :: l' → m' = m2 → ∃ D' chs', Nx ro hr D ρ m chs D' ρ m' chs' ∧ SAt D' ρ m' chs' C h ∧ RpC D' ρ vs ys := by
    intro l' m2 h1 e1 e2
    subst e1 e2
    cases hv with
    | cons a n b =>
      obtain ⟨D', c', n1, M1, r1⟩ := zvy h1 M b
      exact ⟨D', c', n1, M1, .cons (n1.rp a) n r1⟩
    | n hl b =>
      obtain ⟨D', c', n1, M1, r1⟩ := zvy h1 M b
      exact ⟨D', c', n1, M1, .n hl r1⟩
   unfold frzV.frzC at hs
   split at hs
   · rename_i heq; cases heq
   · rename_i b l heq
     cases heq
     split at hs
     · rename_i u m1 hu
       split at hs
       · rename_i l' m2 h2
         cases hs
         cases hv with
         | cons a n b =>
           obtain ⟨D1, c1, n1, M1, r1⟩ := toU_S hu M a
           obtain ⟨D2, c2, n2, M2, r2⟩ := zvy h2 M1 (n1.rpC b)
           exact ⟨D2, c2, n1.trans n2, M2, .cons (.u (r1.mono n2.le)) (by simp) r2⟩
       · cases hs
     · cases hs
   · rename_i v l hne heq
     cases heq
     split at hs
     · rename_i l' m2 h2
       cases hs
       exact other h2 rfl rfl
     · cases hs
theorem frzV_S {x y : V} {v : Value} (hs : frzV (hr ++ ro) m x = some (y, m')) (M : SAt D ρ m chs C h) (hv : Rp D ρ v x) :
 ∃ D' chs', Nx ro hr D ρ m chs D' ρ m' chs' ∧ SAt D' ρ m' chs' C h ∧ Rp D' ρ v y := by
 unfold frzV at hs
 split at hs
 · split at hs
   · rename_i u m1 hu
     cases hs
     obtain ⟨D1, c1, n1, M1, r1⟩ := toU_S hu M hv
     exact ⟨D1, c1, n1, M1, .u r1⟩
   · cases hs
 · split at hs
   · rename_i l' m1 hl
     cases hs
     obtain ⟨vs, rfl, hc⟩ := hv.a_inv
     obtain ⟨D1, c1, n1, M1, r1⟩ := zvy hl M hc
     exact ⟨D1, c1, n1, M1, .a r1⟩
   · cases hs
 · cases hs
   exact ⟨D, chs, .refl, M, hv⟩
theorem zvx : ∀ {xs ys : List V} {vs : List Value} {m m' : Mem} {D : Fz} {chs : List zab}, frzL (hr ++ ro) m xs = some (ys, m') → SAt D ρ m chs C h → RpL D ρ vs xs →
 ∃ D' chs', Nx ro hr D ρ m chs D' ρ m' chs' ∧ SAt D' ρ m' chs' C h ∧ RpL D' ρ vs ys
 | [], ys, vs, m, m', D, chs, hs, M, hv => by simp only [frzL, Option.some.injEq, Prod.mk.injEq] at hs; obtain ⟨rfl, rfl⟩ := hs; exact ⟨D, chs, .refl, M, hv⟩
 | x :: xs, ys, vs, m, m', D, chs, hs, M, hv => by
   simp only [frzL] at hs
   split at hs
   · rename_i y m1 h1
     split at hs
     · rename_i l' m2 h2
       cases hs
       cases hv with
       | cons a b =>
         obtain ⟨D1, c1, n1, M1, r1⟩ := frzV_S h1 M a
         obtain ⟨D2, c2, n2, M2, r2⟩ := zvx h2 M1 (n1.rpL b)
         exact ⟨D2, c2, n1.trans n2, M2, .cons (n2.rp r1) r2⟩
     · cases hs
   · cases hs
theorem zto : ∀ {Ts : List TypeId} {xs : List V} {vs : List Value}, RpL D ρ vs xs → RpL D ρ vs (zmc P Ts xs)
 | [], xs, vs, hv => hv
 | _ :: _, [], vs, hv => hv
 | S :: Ts, x :: xs, vs, hv => by cases hv with | cons a b => exact .cons (datV_S (zfb a)) (zto b)
theorem zfj {m : Mem} : ∀ (n : Nat) (todo acc : List Nat), acc.Nodup → (clo m n todo acc).Nodup
 | 0, _, acc, h => h
 | _ + 1, [], acc, h => h
 | n + 1, b :: todo, acc, h => by
   simp only [clo]
   cases hb : inL acc b with
   | true => exact zfj n _ _ h
   | false =>
     refine zfj n _ _ ?_
     rw [z4u]
     refine ⟨h, by simp, fun x hx y hy e => ?_⟩
     subst e
     rw [z3v.1 hy] at hx
     rw [inL_iff.2 hx] at hb
     cases hb
theorem SAt.takes : ∀ {ix : List Nat} {m : Mem} {chs C : List zab}, SAt D ρ m chs C h → ix.Nodup → (∀ b ∈ ix, b < m.length) →
 ∃ c', SAt D ρ (zcw m ix) c' ((ix.map fun b => (chs[b]?).getD []) ++ C) h ∧ (∀ b, b ∉ ix → c'[b]? = chs[b]? ∧ mg (zcw m ix) b = mg m b)
 | [], m, chs, C, M, hn, hb => ⟨chs, M, fun _ _ => ⟨rfl, rfl⟩⟩
 | b :: ix, m, chs, C, M, hn, hb => by
   have hb0 := hb b (by simp)
   have hr : b < ρ.length := by rw [M.len]; exact hb0
   have hc : b < chs.length := by rw [M.lch]; exact hb0
   have M1 := M.take (z2c hr) (z2c hc)
   rw [z4d] at hn
   obtain ⟨c', M2, g⟩ := SAt.takes M1 hn.2 (fun b' h' => by rw [zb4]; exact hb b' (by simp [h']))
   refine ⟨c', M2.perm ?_, fun b' hb' => ?_⟩
   · have e : (ix.map fun b' => ((chs.set b [])[b']?).getD []) = ix.map fun b' => (chs[b']?).getD [] := by
      refine z5p fun b' hb' => ?_
      rw [z23]
      rintro rfl; exact hn.1 hb'
     rw [e]
     simp only [z2s, z21, z2n, z3r, z2c hc, z3b]
     exact z3g _ _ _
   · simp only [z2e, not_or] at hb'
     obtain ⟨g1, g2⟩ := g b' hb'.2
     simp only [zcw]
     rw [g1, g2, z23 (Ne.symm hb'.1), zbh (Ne.symm hb'.1)]
     exact ⟨rfl, rfl⟩
theorem zhi : ∀ (ix : List Nat) (m : Mem), (zcw m ix).length = m.length
 | [], _ => rfl
 | b :: ix, m => by simp only [zcw]; rw [zhi ix, zb4]
theorem zb0 {ix : List Nat} : ∀ {l : List Nat}, zd5 ix l = true → ∀ b ∈ l, b ∈ ix
 | [], _ => by simp
 | x :: l, h => by
   simp only [zd5, z17] at h
   intro b hb
   rcases z2e.1 hb with rfl | hb
   · exact inL_iff.1 h.1
   · exact zb0 h.2 b hb
theorem zd4 {n : Nat} : ∀ {l : List Nat}, zgo n l = true → ∀ b ∈ l, b < n
 | [], _ => by simp
 | x :: l, h => by
   simp only [zgo, z17] at h
   intro b hb
   rcases z2e.1 hb with rfl | hb
   · exact z2w h.1
   · exact zd4 h.2 b hb
theorem zo8 {hr : List Nat} : ∀ {l : List Nat}, disj hr l = true → ∀ b ∈ l, b ∉ hr
 | [], _ => by simp
 | x :: l, h => by
   simp only [disj, z17, z2u] at h
   intro b hb
   rcases z2e.1 hb with rfl | hb
   · exact fun hm => by rw [inL_iff.2 hm] at h; cases h.1
   · exact zo8 h.2 b hb
theorem zfu : ∀ {ix : List Nat} {b k : Nat}, b ∈ ix → ∃ i, zh9 ix b k = k + i ∧ ix[i]? = some b
 | x :: ix, b, k, hb => by
   simp only [zh9]
   cases hx : z14 x b with
   | true => have := z18 hx; subst this; exact ⟨0, rfl, rfl⟩
   | false =>
     rcases z2e.1 hb with rfl | hb
     · simp at hx
     · obtain ⟨i, h1, h2⟩ := zfu (k := k + 1) hb
       exact ⟨i + 1, by rw [cond_false, h1]; omega, by simpa using h2⟩
theorem zot : ∀ {ix : List Nat} {i b : Nat}, ix[i]? = some b → zw7 ix i = b
 | [], _, _, h => by simp at h
 | _ :: _, 0, _, h => by simpa [zw7] using h
 | _ :: ix, i + 1, b, h => by simp only [zw7]; exact zot (by simpa using h)
theorem Ent.ren {f : Nat → Nat} {L : Loc} {ab : AB} {ch : zab} (he : Ent D ρ L ab ch) (hf : ∀ b ∈ za5 ab, ∀ L, ρ[b]? = some L → ρ'[f b]? = some L) : Ent D ρ' L (zob f ab) ch := by
 cases he with
 | c hc => exact .c (ren_all.2.2 hc hf)
 | w a b => exact .w a b
 | o a => exact .o a
 | p a b c => exact .p a b c
 | tk a => exact .tk a
 | x => exact .x
 | cw a b hc d e f => exact .cw a b (ren_all.2.2 hc hf) d e f
theorem SAt.sub2 (M : SAt D ρ m chs C h) {ix : List Nat} (hn : ix.Nodup) (hb : ∀ b ∈ ix, b < m.length) (hcl : ∀ b ∈ ix, ∀ c ∈ za5 (mg m b), c ∈ ix) : ∃ c' cs, cs = (ix.map fun b => (chs[b]?).getD []) ∧ SAt D ρ (zcw m ix) c' (cs ++ C) h ∧ (∀ b, b ∉ ix → c'[b]? = chs[b]? ∧ mg (zcw m ix) b = mg m b) ∧
 SAt D (ix.map fun b => (ρ[b]?).getD ⟨0, none, 0, 0, none⟩) (zm2 m ix) cs (c' ++ C) h := by
 obtain ⟨c', M1, g⟩ := M.takes hn hb
 refine ⟨c', _, rfl, M1, g, by simp [zm2], by simp [zm2], ?_, ?_⟩
 · intro i L ab ch h1 h2 h3
   simp only [zm2, z2i] at h1 h2 h3
   obtain ⟨b, hib, rfl⟩ := z3k.1 h2
   rw [hib] at h1 h3
   simp only [z3h, Option.some.injEq] at h1 h3
   have hbm := z2y hib
   have hlt := hb b hbm
   have hr : b < ρ.length := by rw [M.len]; exact hlt
   have hc : b < chs.length := by rw [M.lch]; exact hlt
   rw [z2c hr, z3b] at h1
   rw [z2c hc, z3b] at h3
   subst h1 h3
   refine (M.ent b _ _ _ (z2c hr) (zrb hlt) (z2c hc)).ren fun c hcr L hL => ?_
   obtain ⟨k, h4, h5⟩ := zfu (k := 0) (hcl b hbm c hcr)
   rw [h4, z2l, z2i, h5, z3h, hL]; rfl
 · refine M1.st.perm ?_
   simp only [z21]
   exact z3g _ _ _
theorem SAt.sub (M : SAt D ρ m chs C h) {ix : List Nat} (hn : ix.Nodup) (hb : ∀ b ∈ ix, b < m.length) (hcl : ∀ b ∈ ix, ∀ c ∈ za5 (mg m b), c ∈ ix) : ∃ c' cs, SAt D ρ (zcw m ix) c' (cs ++ C) h ∧ (∀ b, b ∉ ix → c'[b]? = chs[b]? ∧ mg (zcw m ix) b = mg m b) ∧
 SAt D (ix.map fun b => (ρ[b]?).getD ⟨0, none, 0, 0, none⟩) (zm2 m ix) cs (c' ++ C) h :=
 let ⟨c', cs, _, h1, h2, h3⟩ := M.sub2 hn hb hcl; ⟨c', cs, h1, h2, h3⟩
end
section
variable {P : Program} {D D' : Fz} {ρ ρ' : List Loc} {m m' : Mem} {chs C : List zab} {h h' : zac} {T : List Value} {t : List V} {ro hr : List Nat}
theorem St.sublist {C' : List zab} (S : St D C h) (hs : C'.flatten.Sublist C.flatten) : St D C' h where
 nd := (hs.map (fun p : Nat × Obj => p.1)).nodup S.nd
 own p hp := S.own p (hs.subset hp)
 fz b o hb := ⟨(S.fz b o hb).1, fun hm => (S.fz b o hb).2 ((hs.map (fun p : Nat × Obj => p.1)).subset hm)⟩
theorem St.drops {A B : List zab} (S : St D (A ++ B) h) : St D B h := S.sublist (by rw [z21]; exact z6w _ _)
theorem ztk {lim : Nat} : ∀ {rs : List RP} {xs : List V} {m m' : Mem} {os : List It}, pkR lim m rs xs = some (os, m') → rs.length = xs.length
 | [], [], _, _, _, _ => rfl
 | [], _ :: _, _, _, _, h => by cases h
 | .one _ :: _, [], _, _, _, h => by cases h
 | .agg _ :: _, [], _, _, _, h => by cases h
 | .one y :: rs, x :: xs, m, m', os, h => by
   simp only [pkR] at h
   split at h
   · split at h
     · rename_i h2; simp [ztk h2]
     · cases h
   · cases h
 | .agg qs :: rs, x :: xs, m, m', os, h => by
   cases x with
   | a l =>
     simp only [pkR] at h
     split at h
     · split at h
       · rename_i h2; simp [ztk h2]
       · cases h
     · cases h
   | _ => simp [pkR] at h
theorem zj4 : ∀ {ix : List Nat} {K : Prop}, roEq ro m m' ix K → K ∧ ∀ b ∈ ix, inL ro b = true → mg m' b = mg m b
 | [], K, h => ⟨h, by simp⟩
 | b :: ix, K, h => by
   simp only [roEq] at h
   cases hb : inL ro b with
   | true =>
     rw [hb] at h
     obtain ⟨h1, h2⟩ := zj4 h.2
     refine ⟨h1, fun c hc hr => ?_⟩
     rcases z2e.1 hc with rfl | hc
     · exact h.1
     · exact h2 c hc hr
   | false =>
     rw [hb] at h
     obtain ⟨h1, h2⟩ := zj4 h
     refine ⟨h1, fun c hc hr => ?_⟩
     rcases z2e.1 hc with rfl | hc
     · rw [hb] at hr; cases hr
     · exact h2 c hc hr
theorem datA_S {L : Loc} {ab : AB} {ch : zab} (he : Ent D ρ L ab ch) : Ent D ρ L (datA ab) ch := by
 cases he with
 | c h => exact .c (zwa h)
 | w a b => exact .w a b
 | o a => exact .o a
 | p a b c => exact .p a b c
 | tk a => exact .tk a
 | x => exact .x
 | cw a b c d e f => exact .cw a b c d e f
theorem zv9 : ∀ {m : Mem} {i : Nat}, (datM m)[i]? = (m[i]?).map datA
 | [], i => by simp [datM]
 | a :: m, 0 => by simp [datM]
 | a :: m, i + 1 => by simp only [datM, z4t]; exact zv9
theorem zo9 : ∀ {m : Mem}, (datM m).length = m.length
 | [] => rfl
 | a :: m => by simp [datM, zo9 (m := m)]
theorem SAt.dat (M : SAt D ρ m chs C h) : SAt D ρ (datM m) chs C h where
 len := by rw [zo9]; exact M.len
 lch := by rw [zo9]; exact M.lch
 ent i L ab ch h1 h2 h3 := by
  rw [zv9] at h2
  obtain ⟨a, h4, rfl⟩ := z3k.1 h2
  exact datA_S (M.ent i L a ch h1 h4 h3)
 st := M.st
theorem callQ_S {kn : KN P} {g : FuncId} {m : Mem} {a : List V} {Q : V → Mem → Prop} (h : callQ P kn g m a Q) : PRun P g m a Q := by
 unfold callQ at h
 split at h
 · rename_i r hr
   intro D ρ chs C hp vs M ha
   exact (kn.ok g m a r hr D ρ chs C hp vs M ha).mono fun v h' ⟨D', ρ', c', x, m', l, M', hv, hx⟩ => ⟨D', ρ', c', x, m', l, M', hv, by rw [hx.1, hx.2]; exact h⟩
 · exact h
theorem callT_S {kn : KN P} {g : FuncId} {ix : List Nat} {rs : List RP} {bs : List BP} {as' : List V} {m1 : Mem} {c1 : List zab} {D1 : Fz} {KS : V → Mem → Prop} {vs : List Value} (hs : callT P kn ro hr g ix rs bs as' m1 KS) (hnd : ix.Nodup) (n1 : Nx ro hr D ρ m chs D1 ρ m1 c1) (M1 : SAt D1 ρ m1 c1 C h) (ra : RpL D1 ρ vs as') :
 Run P g vs h (zc5 ro hr D ρ m chs C KS) := by
 unfold callT at hs
 · obtain ⟨hcc, hrun⟩ := zaa hs
   simp only [z17] at hcc
   obtain ⟨⟨⟨⟨q1, q2⟩, q3⟩, q4⟩, q5⟩ := hcc
   have q1 := zo8 q1
   have q2 := zd4 q2
   have q3 := zb0 q3
   have q4 := zb0 q4
   have q5 := z18 q5
   obtain ⟨c', cs, Mk, gk, Ms⟩ := M1.sub hnd q2 fun b hb c hc => q4 c (z5u.2 ⟨b, hb, hc⟩)
   have sub : ∀ {b i : Nat} {L : Loc}, ix[i]? = some b → ρ[b]? = some L → (ix.map fun b => (ρ[b]?).getD ⟨0, none, 0, 0, none⟩)[i]? = some L := fun h1 h2 => by rw [z2i, h1, z3h, h2]; rfl
   have ra' := (ren_all (D := D1) (ρ := ρ) (f := fun b => zh9 ix b 0) (ρ' := ix.map fun b => (ρ[b]?).getD ⟨0, none, 0, 0, none⟩)).2.1 ra fun b hb L hL => by
    obtain ⟨k, h4, h5⟩ := zfu (k := 0) (q3 b hb)
    rw [h4, z2l]
    exact sub h5 hL
   refine ((callQ_S hrun) D1 _ cs (c' ++ C) h vs Ms.dat ra').mono ?_
   rintro v h' ⟨D2, ρ2, cs2, x, m', le, Ms2, hv, hq⟩
   unfold post at hq
   split at hq
   · rename_i os mm1 hR
     split at hq
     · rename_i os2 mm2 hB
       -- the results as values
       have hxs : ∃ VS, RpL D2 ((ix.map fun b => (ρ[b]?).getD ⟨0, none, 0, 0, none⟩) ++ ρ2) VS (resX rs x) ∧
        ∀ {D3 : Fz} {ρ3 : List Loc} {ys : List V}, RpL D3 ρ3 VS ys → Rp D3 ρ3 v (oneR rs ys) := by
        have hlen := ztk hR
        by_cases hone : ∃ r, rs = [r]
        · obtain ⟨r, rfl⟩ := hone
          refine ⟨[v], .cons hv .nil, fun hy => ?_⟩
          cases hy with | cons a b => cases b; exact a
        · have e1 : ∀ ys, oneR rs ys = .t ys := fun ys => by
           unfold oneR
           split
           · exact absurd ⟨_, rfl⟩ hone
           · rfl
          cases x with
          | t l =>
            have e2 : resX rs (.t l) = l := by
             unfold resX
             split
             · exact absurd ⟨_, rfl⟩ hone
             · rename_i h1; cases h1; rfl
             · rename_i h1; exact absurd rfl (h1 _)
            obtain ⟨VS, rfl, hl⟩ := hv.t_inv
            exact ⟨VS, by rw [e2]; exact hl, fun hy => by rw [e1]; exact .t hy⟩
          | _ =>
            exfalso
            have : rs.length = 1 := by
             rw [hlen]
             unfold resX
             split <;> first | rfl | (rename_i h1; cases h1)
            exact hone (List.length_eq_one_iff.1 this)
       obtain ⟨VS, hVS, hres⟩ := hxs
       obtain ⟨tk1, c3, M3, o1, k1, -⟩ := pkR_S hR Ms2 hVS
       obtain ⟨tk2, c4, M4, o2, k2, -⟩ := ztl hB M3
       rw [apP_mk (k1.app k2)] at hq
       -- back to the caller
       have S5 : St D2 (c' ++ (tk1 ++ (tk2 ++ C))) h' := (M4.st.drops).perm (by
        simp only [z21]
        have p1 : ∀ (A B E F : zab), (A ++ (B ++ (E ++ F))).Perm (E ++ (B ++ (A ++ F))) := fun A B E F => by
         refine (z3g A B _).trans ?_
         refine ((z3g A E F).append_left B).trans ?_
         exact z3g B E _
        exact p1 _ _ _ _)
       have M5 : SAt D2 ρ (zcw m1 ix) c' (tk1 ++ (tk2 ++ C)) h' := Mk.mono le S5
       have hR1 : Ren (zw7 ix) bs.length ((ix.map fun b => (ρ[b]?).getD ⟨0, none, 0, 0, none⟩) ++ ρ2) ρ := fun b hb L hL => by
        have hb' : b < ix.length := by omega
        rw [z2k (by simpa using hb'), z2i, z2c hb', z3h] at hL
        have hlt : ix[b] < ρ.length := by rw [M1.len]; exact q2 _ (z4y hb')
        rw [z2c hlt] at hL
        rw [zot (z2c hb'), z2c hlt]
        exact hL
       obtain ⟨s, ns, cn, e1, e2, M6, r6⟩ := reR_S (r := os2) o1 M5 hR1
       rw [← e1] at o2
       have hlk := zhi ix m1
       obtain ⟨s2, c7, M7, g1, g2⟩ := reB_S (bs := ix) o2 M6 (hR1.app s) (by rw [q5]) (fun i j b hj hb => by
        have hj' : j = i ∧ i < bs.length := by
         have := z2a.1 hj
         obtain ⟨h1, h2⟩ := this
         simp at h1 h2
         exact ⟨h2.symm, h1⟩
        obtain ⟨rfl, hi⟩ := hj'
        have hbm := q2 b (z2y hb)
        refine ⟨by rw [z2z, hlk]; omega, fun L hL => ?_⟩
        have := (hR1.app s) j hi L hL
        rwa [zot hb] at this)
       rw [e2] at hq
       obtain ⟨hK, hro⟩ := zj4 hq
       refine ⟨D2, ρ ++ (s ++ s2), _, c7, _, ⟨n1.le.trans le, ⟨_, rfl⟩, fun b hb hlt => ?_, fun b hb hlt => ?_, ?_⟩, by rw [← z2m]; exact M7, hres (by rw [← z2m]; exact r6.mono (.refl _) s2), hK⟩
       · have hlt1 : b < m1.length := z5l hlt n1.len
         have hni : b ∉ ix := fun hi => q1 b hi (inL_iff.1 hb)
         rw [(g2 b (by rw [z2z, hlk]; omega) hni).2, z2k (by rw [Mk.lch, hlk]; exact hlt1), (gk b hni).1, n1.keep b hb hlt]
       · have hlt1 : b < m1.length := z5l hlt n1.len
         by_cases hi : b ∈ ix
         · have hbr : inL ro b = true := by
            rw [inL_iff] at hb ⊢
            exact (z2f.1 hb).resolve_left (q1 b hi)
           rw [hro b hi hbr, n1.same b hb hlt]
         · rw [(g2 b (by rw [z2z, hlk]; omega) hi).1, zni (by rw [hlk]; exact hlt1), (gk b hi).2, n1.same b hb hlt]
       · have := n1.len
         rw [z2z, hlk] at g1
         omega
     · exact hq.elim
   · exact hq.elim
theorem callS_S {H : SH P} {fn : Func} {g : FuncId} {args : List V} {KS : V → Mem → Prop} {vs : List Value} (hs : callS P H ro hr fn g args m KS) (M : SAt D ρ m chs C h) (ha : RpL D ρ vs args) : Run P g vs h (zc5 ro hr D ρ m chs C KS) := by
 unfold callS at hs
 split at hs
 · exact hs.elim
 · rename_i as' m1 hfz
   have ha := zto (P := P) (Ts := fn.params.toList) ha
   have frz : ∃ D1 c1, Nx ro hr D ρ m chs D1 ρ m1 c1 ∧ SAt D1 ρ m1 c1 C h ∧ RpL D1 ρ vs as' := by
    cases hw : inL H.ow g with
    | true =>
      rw [hw] at hfz
      simp only [cond_true, Option.some.injEq, Prod.mk.injEq] at hfz
      obtain ⟨rfl, rfl⟩ := hfz
      exact ⟨D, chs, .refl, M, ha⟩
    | false =>
      rw [hw] at hfz
      exact zvx hfz M ha
   obtain ⟨D1, c1, n1, M1, ra⟩ := frz
   have hnd := zfj (m := m1) 1000 (zam as') [] (by simp)
   split at hs
   · exact callT_S hs hnd n1 M1 ra
   · exact callT_S hs hnd n1 M1 ra
end
section
variable {P : Program} {D D' : Fz} {ρ ρ' : List Loc} {m m' : Mem} {chs C : List zab} {h h' : zac} {T : List Value} {t : List V} {ro hr : List Nat}
theorem refs_lt : (∀ {v : Value} {x : V}, Rp D ρ v x → ∀ b ∈ zae x, b < ρ.length) ∧ (∀ {v : List Value} {x : List V}, RpL D ρ v x → ∀ b ∈ zam x, b < ρ.length) ∧ (∀ {v : List Value} {x : List V}, RpC D ρ v x → ∀ b ∈ zam x, b < ρ.length) := by
 have lt : ∀ {b : Nat} {L : Loc}, ρ[b]? = some L → b < ρ.length := fun h => (z2a.1 h).1
 have one : ∀ {b : Nat} {L : Loc}, ρ[b]? = some L → ∀ c ∈ [b], c < ρ.length := fun h c hc => by rw [z3v.1 hc]; exact lt h
 have key := @Rp.rec D ρ (fun v x _ => ∀ b ∈ zae x, b < ρ.length) (fun vs xs _ => ∀ b ∈ zam xs, b < ρ.length) (fun vs xs _ => ∀ b ∈ zam xs, b < ρ.length)
  (fun _ => by simp [zae]) (fun h => one h) (fun h _ _ _ => one h) (fun h _ _ => one h) (fun _ _ _ => by simp [zae]) (fun h => one h) (fun _ => by simp [zae]) (fun h => one h) (by simp [zae]) (by simp [zae])
  (fun _ _ i1 i2 => by intro b hb; simp only [zae, z2f] at hb; exact hb.elim (i1 b) (i2 b)) (fun _ i => i) (fun _ i => i) (by simp [zae]) (fun h => one h) (fun h _ _ _ _ _ _ => one h) (fun h _ _ => one h) (by simp [zam])
  (fun _ _ i1 i2 => by intro b hb; simp only [zam, z2f] at hb; exact hb.elim (i1 b) (i2 b)) (by simp [zam]) (fun _ _ _ i1 i2 => by intro b hb; simp only [zam, z2f] at hb; exact hb.elim (i1 b) (i2 b))
  (fun _ _ i => by intro b hb; simp only [zam, zae, z3f] at hb; exact i b hb)
 have keyL := @RpL.rec D ρ (fun v x _ => ∀ b ∈ zae x, b < ρ.length) (fun vs xs _ => ∀ b ∈ zam xs, b < ρ.length) (fun vs xs _ => ∀ b ∈ zam xs, b < ρ.length)
  (fun _ => by simp [zae]) (fun h => one h) (fun h _ _ _ => one h) (fun h _ _ => one h) (fun _ _ _ => by simp [zae]) (fun h => one h) (fun _ => by simp [zae]) (fun h => one h) (by simp [zae]) (by simp [zae])
  (fun _ _ i1 i2 => by intro b hb; simp only [zae, z2f] at hb; exact hb.elim (i1 b) (i2 b)) (fun _ i => i) (fun _ i => i) (by simp [zae]) (fun h => one h) (fun h _ _ _ _ _ _ => one h) (fun h _ _ => one h) (by simp [zam])
  (fun _ _ i1 i2 => by intro b hb; simp only [zam, z2f] at hb; exact hb.elim (i1 b) (i2 b)) (by simp [zam]) (fun _ _ _ i1 i2 => by intro b hb; simp only [zam, z2f] at hb; exact hb.elim (i1 b) (i2 b))
  (fun _ _ i => by intro b hb; simp only [zam, zae, z3f] at hb; exact i b hb)
 have keyC := @RpC.rec D ρ (fun v x _ => ∀ b ∈ zae x, b < ρ.length) (fun vs xs _ => ∀ b ∈ zam xs, b < ρ.length) (fun vs xs _ => ∀ b ∈ zam xs, b < ρ.length)
  (fun _ => by simp [zae]) (fun h => one h) (fun h _ _ _ => one h) (fun h _ _ => one h) (fun _ _ _ => by simp [zae]) (fun h => one h) (fun _ => by simp [zae]) (fun h => one h) (by simp [zae]) (by simp [zae])
  (fun _ _ i1 i2 => by intro b hb; simp only [zae, z2f] at hb; exact hb.elim (i1 b) (i2 b)) (fun _ i => i) (fun _ i => i) (by simp [zae]) (fun h => one h) (fun h _ _ _ _ _ _ => one h) (fun h _ _ => one h) (by simp [zam])
  (fun _ _ i1 i2 => by intro b hb; simp only [zam, z2f] at hb; exact hb.elim (i1 b) (i2 b)) (by simp [zam]) (fun _ _ _ i1 i2 => by intro b hb; simp only [zam, z2f] at hb; exact hb.elim (i1 b) (i2 b))
  (fun _ _ i => by intro b hb; simp only [zam, zae, z3f] at hb; exact i b hb)
 exact ⟨fun h => key h, fun h => keyL h, fun h => keyC h⟩
mutual
theorem ztc : ∀ x : V, zcf id x = x
 | .r b o => rfl
 | .e b s k o => rfl
 | .g b o w k => rfl
 | .w b => rfl
 | .m b => rfl
 | .y b => rfl
 | .v b sz l n c => rfl
 | .sl b o n => rfl
 | .f g a c => by simp only [zcf]; rw [zei a, zei c]
 | .a l => by simp only [zcf]; rw [zei l]
 | .t l => by simp only [zcf]; rw [zei l]
 | .u x => rfl
 | .q c o => rfl
 | .c s r => rfl
 | .nm => rfl
 | .nl _ => rfl
 | .n k w l => rfl
 | .z => rfl
theorem zei : ∀ x : List V, zd8 id x = x
 | [] => rfl
 | v :: l => by simp only [zd8]; rw [ztc v, zei l]
end
theorem Ent.shrink {D0 : Fz} {s : List Loc} {L L0 : Loc} {ab : AB} {ch ch0 : zab} (h0 : Ent D0 ρ L0 ab ch0) (he : Ent D (ρ ++ s) L ab ch) : Ent D ρ L ab ch := by
 have hf : ∀ b ∈ za5 ab, b < ρ.length := by
  cases h0 with
  | c hc => exact refs_lt.2.2 hc
  | cw _ _ hc => exact refs_lt.2.2 hc
  | _ => simp [za5]
 have := he.ren (f := id) (ρ' := ρ) fun b hb L hL => by rw [z2k (hf b hb)] at hL; exact hL
 cases ab with
 | c l => simp only [zob, zei] at this; exact this
 | cw _ _ _ l => simp only [zob, zei] at this; exact this
 | _ => exact this
theorem zrl : ∀ {l : List Nat} {m : Mem} {b : Nat}, b < m.length → mg (zcw m l) b = if b ∈ l then .x else mg m b
 | [], m, b, h => by simp [zcw]
 | j :: l, m, b, h => by
   simp only [zcw]
   rw [zrl (by rw [zb4]; exact h)]
   by_cases hbj : j = b
   · subst hbj; rw [z00 h]; simp
   · rw [zbh hbj]
     have : b ≠ j := Ne.symm hbj
     simp [this]
theorem ziq : ∀ {a c : Mem}, zhy a c = true → ∀ b, mg a b ≠ .x → mg c b ≠ .x
 | [], c, h, b, hb => absurd rfl hb
 | y1 :: a, [], h, b, hb => by cases y1 <;> simp [zhy] at h
 | y1 :: a, y :: c, h, b, hb => by
   have h2 : zhy a c = true := by cases y1 <;> cases y <;> first | exact h | (simp [zhy] at h)
   cases b with
   | zero =>
     intro e
     simp only [mg] at e hb
     subst e
     cases y1 <;> first | exact hb rfl | simp [zhy] at h
   | succ b => exact ziq h2 b hb
theorem roOf_mem : ∀ {m : Mem} {k b : Nat}, b ∈ zx8 m k ↔ ∃ i, b = k + i ∧ mg m i ≠ .x
 | [], k, b => by simp [zx8, mg]
 | y1 :: m, k, b => by
   have step : (∃ i, b = k + i ∧ mg (y1 :: m) i ≠ .x) ↔ (b = k ∧ y1 ≠ .x) ∨ ∃ i, b = k + 1 + i ∧ mg m i ≠ .x := by
    constructor
    · rintro ⟨i, hi, hx⟩
      cases i with
      | zero => exact .inl ⟨by omega, hx⟩
      | succ i => exact .inr ⟨i, by omega, hx⟩
    · rintro (⟨h1, h2⟩ | ⟨i, h1, h2⟩)
      · exact ⟨0, by omega, h2⟩
      · exact ⟨i + 1, by omega, h2⟩
   rw [step, ← roOf_mem (m := m) (k := k + 1)]
   cases y1 <;> simp [zx8]
theorem zm1 : ∀ {a b : List zab}, a.length ≤ b.length → (∀ (i : Nat) (c : zab), a[i]? = some c → c = [] ∨ b[i]? = some c) → a.flatten.Sublist b.flatten
 | [], b, _, _ => by simp
 | x :: a, [], h, _ => by simp at h
 | x :: a, y :: b, h, hh => by
   rw [z2n, z2n]
   refine List.Sublist.append ?_ (zm1 (by simpa using h) fun i c hc => hh (i + 1) c (by simpa using hc))
   rcases hh 0 x rfl with rfl | h0
   · exact List.nil_sublist _
   · simp at h0; rw [h0]; exact List.Sublist.refl _
theorem z1l {md : List Nat} {T' : List Value} : ∀ {t : List V} {T : List Value} {T' : List Value} {k : Nat}, RpL D ρ T t → T'.length = T.length → (∀ i, k + i ∉ md → zc6 T' i = zc6 T i) → RpL D ρ T' (z1m md t k)
 | [], T, T', k, F, hl, hs => by
   cases F
   have : T' = [] := z3w hl
   subst this
   exact .nil
 | x :: t, T, [], k, F, hl, hs => by cases F; simp at hl
 | x :: t, T, v' :: T', k, F, hl, hs => by
   cases F with
   | cons a b =>
     simp only [z1m]
     refine .cons ?_ (z1l (T' := T') b (by simpa using hl) fun i hi => ?_)
     · cases hc : md.contains k with
       | true => exact .z
       | false =>
         have := hs 0 (by simpa using hc)
         simp only [zc6] at this
         rw [this]; exact a
     · have := hs (i + 1) (by rw [show k + (i + 1) = k + 1 + i by omega]; exact hi)
       simpa [zc6] using this
theorem setS_S : ∀ {sl : List (Nat × RP)} {xs : List V} {T : List Value} {t : List V}, RpL D ρ T t → RpL D ρ (sl.map fun p => zc6 T p.1) xs → RpL D ρ T (setS t sl xs)
 | [], xs, T, t, F, hx => by cases xs <;> exact F
 | p :: sl, xs, T, t, F, hx => by
   cases hx with
   | cons a b =>
     simp only [setS]
     have := F.set p.1 a
     rw [zox] at this
     exact setS_S this b
theorem zyn (F : RpL D ρ T t) : ∀ (sl : List (Nat × RP)), RpL D ρ (sl.map fun p => zc6 T p.1) (sl.map fun p => zc7 t p.1)
 | [] => .nil
 | p :: sl => .cons (F.get p.1) (zyn F sl)
theorem zzr {H : Hint} {md : List Nat} {hp : zac} (hd : disj (hr ++ ro) (H.tk t m) = true) (hbl : zgo m.length (H.bl.map (·.1)) = true) {C0 : List zab} (M : SAt D ρ m chs C0 hp) (F : RpL D ρ T t) {D' : Fz} {ρ' : List Loc} {m' : Mem} {chs' : List zab} {t' : List V} {T' : List Value}
 (n : Nx (zx8 (H.base t m) 0 ++ ro) hr D ρ m chs D' ρ' m' chs') (M' : SAt D' ρ' m' chs' C h') (F' : RpL D' ρ' T' t') (ag : Agr md T T') {os : List It} {mR : Mem} (hpk : H.pk (H.base t m).length t' m' = some (os, mR)) (hal : zhy (H.base t m) mR = true) :
 ∃ ρ2 c2, Nx (zx8 (H.base t m) 0 ++ ro) hr D ρ m chs D' ρ2 (H.st md t m os).2 c2 ∧ SAt D' ρ2 (H.st md t m os).2 c2 C h' ∧ RpL D' ρ2 T' (H.st md t m os).1 ∧ OkL H.ps os := by
 have hbase : (H.base t m).length = m.length := zhi _ _
 generalize hm0 : H.base t m = m0 at *
 have hN : m0.length = m.length := hbase
 have hm0g : ∀ b, b < m.length → mg m0 b = if b ∈ H.tk t m then .x else mg m b := fun b hb => by rw [← hm0]; exact zrl hb
 obtain ⟨s, rfl⟩ := n.pre
 unfold Hint.pk at hpk
 split at hpk
 · rename_i os1 mm1 hV
   split at hpk
   · rename_i os2 mm2 hB
     cases hpk
     have hvals := zyn F' H.sl
     obtain ⟨tk1, c3, M3, o1, k1, kk1⟩ := pkR_S hV M' hvals
     obtain ⟨tk2, c4, M4, o2, k2, kk2⟩ := ztl hB M3
     have hk : ∀ b, mg m0 b ≠ .x → mg mR b = mg m' b := fun b hb => by
      have h1 := ziq hal b hb
      rcases zcm hB b with h2 | h2
      · rcases zg3 hV b with h3 | h3
        · exact h2.trans h3
        · exact absurd (h2.trans h3) h1
      · exact absurd h2 h1
     have hmm : ∀ b, b < m.length → mg m0 b ≠ .x → mg m0 b = mg m b ∧ mg m' b = mg m b := fun b hb hx => by
      have h1 := hm0g b hb
      refine ⟨?_, n.same b ?_ hb⟩
      · split at h1
        · exact absurd h1 hx
        · exact h1
      · rw [inL_iff]; simp only [z2f]; exact .inr (.inl (roOf_mem.2 ⟨b, by omega, hx⟩))
     -- the chunks of what was there
     have hlenR : mR.length = (ρ ++ s).length := M4.len.symm
     have hmR : m.length ≤ mR.length := by rw [hlenR, z2z, M.len]; omega
     let c0 : List zab := (z2b m.length).map fun b => match mg m0 b with | .x => [] | _ => (c4[b]?).getD []
     have hc0 : ∀ b, b < m.length → c0[b]? = some (match mg m0 b with | .x => [] | _ => (c4[b]?).getD []) := fun b hb => by
      simp only [c0, z2i]
      rw [z5s hb]; rfl
     have hc0l : c0.length = m.length := by simp [c0]
     have hc4 : ∀ b, b < m.length → c4[b]? = some ((c4[b]?).getD []) := fun b hb => by
      have : b < c4.length := by rw [M4.lch]; omega
      rw [z2c this]; rfl
     have S0 : St D' (c0 ++ (tk1 ++ (tk2 ++ C))) h' := by
      have hsub : c0.flatten.Sublist c4.flatten := zm1 (by rw [hc0l, M4.lch]; exact hmR) fun i c hc => by
       have hi : i < m.length := by rw [← hc0l]; exact (z2a.1 hc).1
       rw [hc0 i hi] at hc
       cases hc
       split
       · exact .inl rfl
       · exact .inr (hc4 i hi)
      have S1 : St D' (c0 ++ (tk2 ++ (tk1 ++ C))) h' := M4.st.sublist (by
       simp only [z21]
       exact hsub.append (List.Sublist.refl _))
      refine S1.perm ?_
      simp only [z21]
      exact (z3g _ _ _).append_left _
     have M0 : SAt D' ρ m0 c0 (tk1 ++ (tk2 ++ C)) h' := by
      refine ⟨by rw [hN]; exact M.len, by rw [hN]; exact hc0l, fun i L ab ch h1 h2 h3 => ?_, S0⟩
      have hi : i < m.length := by rw [← hN]; exact (z2a.1 h2).1
      rw [zrb (by rw [hN]; exact hi)] at h2
      rw [hc0 i hi] at h3
      cases h2; cases h3
      split
      · rename_i hx; rw [hx]; exact .x
      · rename_i hx
        obtain ⟨e1, e2⟩ := hmm i hi hx
        have h4 := M4.ent i L (mg mR i) _ (zan h1) (zrb (by omega)) (hc4 i hi)
        rw [hk i hx, e2] at h4
        have hρ : i < ρ.length := by rw [M.len]; exact hi
        have hch : i < chs.length := by rw [M.lch]; exact hi
        have h0 := M.ent i _ _ _ (z2c hρ) (zrb hi) (z2c hch)
        rw [e1]
        exact h0.shrink h4
     have hR : Ren id m0.length (ρ ++ s) ρ := fun b hb L hL => by
      rw [z2k (by rw [M.len, ← hN]; exact hb)] at hL; exact hL
     obtain ⟨s1, ns, cn, e1, e2, M5, r6⟩ := reR_S (r := os2) o1 M0 hR
     have hbl := zd4 hbl
     obtain ⟨s2, c7, M7, g1, g2⟩ := reB_S (f := id) (bs := H.bl.map (·.1)) o2 M5 (hR.app s1) (by simp) (fun i j b hj hb => by
      rw [hj] at hb; cases hb
      have hlt := hbl j (z2y hj)
      refine ⟨by rw [z2z]; omega, fun L hL => ?_⟩
      rw [z2k (by rw [M.len]; exact hlt)] at hL
      exact zan hL)
     have hst : (H.st md t m (os1 ++ os2)).2 = reB id (m0 ++ ns) (H.bl.map (·.2)) (H.bl.map (·.1)) os2 := by
      simp only [Hint.st, hm0, e1, e2]
     have hst1 : (H.st md t m (os1 ++ os2)).1 = setS (z1m md t 0) H.sl (reR id m0 (H.sl.map (·.2)) (os1 ++ os2)).1 := by
      simp only [Hint.st, hm0]
     rw [hst, hst1]
     have hd := zo8 hd
     -- what is alive at the head is as it was
     have hal2 : ∀ b, b < m.length → b ∉ H.bl.map (·.1) → mg (reB id (m0 ++ ns) (H.bl.map (·.2)) (H.bl.map (·.1)) os2) b = mg m0 b ∧ c7[b]? = c0[b]? := fun b hb hnb => by
      obtain ⟨h1, h2⟩ := g2 b (by rw [z2z]; omega) hnb
      rw [h1, h2, zni (by omega), z2k (by rw [hc0l]; exact hb)]
      exact ⟨rfl, rfl⟩
     have htkb : ∀ b, b ∈ H.bl.map (·.1) → b ∈ H.tk t m := fun b hb => by
      obtain ⟨p, hp, rfl⟩ := z20.1 hb
      simp only [Hint.tk, z2f]
      refine .inr (z5u.2 ⟨p, hp, ?_⟩)
      unfold tkB
      split
      · split <;> simp
      · simp
     refine ⟨ρ ++ (s1 ++ s2), c7, ⟨n.le, ⟨_, rfl⟩, fun b hb hlt => ?_, fun b hb hlt => ?_, by rw [z2z] at g1; omega⟩, by rw [← z2m]; exact M7, ?_, ?_⟩
     · have hnt : b ∉ H.tk t m := fun hm => hd b hm (by simp [inL_iff.1 hb])
       have hnb : b ∉ H.bl.map (·.1) := fun hm => hnt (htkb b hm)
       rw [(hal2 b hlt hnb).2, hc0 b hlt]
       have hx := hm0g b hlt
       rw [if_neg hnt] at hx
       have h1 := n.keep b hb hlt
       have hch : b < chs.length := by rw [M.lch]; exact hlt
       have hρ : b < ρ.length := by rw [M.len]; exact hlt
       split
       · rename_i h3
         have h0 := M.ent b _ _ _ (z2c hρ) (zrb hlt) (z2c hch)
         rw [← hx, h3] at h0
         rw [z2c hch]
         generalize chs[b] = c at h0
         cases h0; rfl
       · rename_i h3
         have h4 := ziq hal b h3
         have h5 : mg mm1 b ≠ .x := by
          rcases zcm hB b with h6 | h6
          · rw [← h6]; exact h4
          · exact absurd h6 h4
         rw [← hc4 b hlt, kk2 b h4, kk1 b h5, h1]
     · rcases z2f.1 (inL_iff.1 hb) with hb | hb
       · have hnt : b ∉ H.tk t m := fun hm => hd b hm (by simp [hb])
         rw [(hal2 b hlt (fun hm => hnt (htkb b hm))).1, hm0g b hlt, if_neg hnt]
       · rcases z2f.1 hb with hb | hb
         · obtain ⟨i, hi, hx⟩ := roOf_mem.1 hb
           have : i = b := by omega
           subst this
           have hnt : i ∉ H.tk t m := fun hm => by rw [hm0g i hlt, if_pos hm] at hx; exact hx rfl
           rw [(hal2 i hlt (fun hm => hnt (htkb i hm))).1, (hmm i hlt hx).1]
         · have hnt : b ∉ H.tk t m := fun hm => hd b hm (by simp [hb])
           rw [(hal2 b hlt (fun hm => hnt (htkb b hm))).1, hm0g b hlt, if_neg hnt]
     · refine setS_S (z1l (T' := T') ((F.mono n.le (s1 ++ s2))) ag.len fun i hi => ?_) (by rw [← z2m]; exact r6.mono (.refl _) s2)
       rw [z2l] at hi
       exact ag.same i hi
     · unfold Hint.ps
       exact k1.app k2
   · cases hpk
 · cases hpk
end
section
variable {P : Program} {D D' : Fz} {ρ ρ' : List Loc} {m m' : Mem} {chs C : List zab} {h h' : zac} {T : List Value} {t : List V} {ro hr : List Nat}
def dch (ds : List Nat) : List zab := ds.map fun b => [(b, .deferred (some []))]
theorem SAt.cput {l : Nat} {o : Obj} (M : SAt D ρ m chs ([(l, o)] :: C) h) (o' : Obj) : SAt D ρ m chs ([(l, o')] :: C) (h.setIfInBounds l o') := by
 have S := M.st.unmid
 have hl := S.get (z2x _)
 have hlt := zbl hl
 refine M.mono (.refl D) (S.upd (c' := [(l, o')]) ⟨by simp, fun x hx hn => ?_⟩ (by simp [hlt]) (by simp) (by simp)).mid
 simp only [z2s, List.map_nil, z3v] at hn
 rw [Array.getElem?_setIfInBounds_ne (Ne.symm hn)]
theorem SAt.cdrop {c : zab} (M : SAt D ρ m chs (c :: C) h) : SAt D ρ m chs C h := M.mono (.refl D) M.st.unmid.drop
theorem SAt.cpush (M : SAt D ρ m chs C h) (o : Obj) : SAt D ρ m chs ([(h.size, o)] :: C) (h.push o) :=
 M.mono (.refl D) (M.st.nil.upd (c' := [(h.size, o)]) (KB.push _ _ _) (by simp) (by simp) (by simp)).mid
theorem z1c {fn : Func} {tmps : Array Value} {R : Ending → World → Prop} {n : Nat} : ∀ (ds : List Nat) (w : World), SAt D ρ m chs (dch ds ++ C) w.heap → (∀ w', SAt D ρ m chs C w'.heap → Same w w' → ∃ v, (results fn tmps).run P w' = .ok v w' ∧ R (.returned v) w') →
 LeavesInM (FW none) n P fn tmps R (ds.map mark) .returning w
 | [], w, M, hK => hK w M (.refl w)
 | b :: ds, w, M, hK => by
   have M' : SAt D ρ m chs ([(b, .deferred (some []))] :: (dch ds ++ C)) w.heap := M
   refine ⟨by simp, .inl ⟨b, w.putObj b (.deferred none), rfl, run_takeDeferred (M'.st.unmid.get (z2x _)), ?_⟩⟩
   exact z1c ds _ ((M'.cput (.deferred none)).cdrop) fun w' h1 h2 => hK w' h1 ((Same.put _ _ _).trans h2)
structure UpY (md : List Nat) (T : List Value) (w : World) (ro hr : List Nat) (D : Fz) (ρ : List Loc) (m : Mem) (chs C : List zab) (K : List V → Mem → Prop) (a' : Act) (w' : World) : Prop where
 sm : Same w w'
 ag : Agr md T a'.tmps.toList
 ex : ∃ ds D' ρ' m' chs' t', a'.defers = ds.map mark ∧ Nx ro hr D ρ m chs D' ρ' m' chs' ∧ SAt D' ρ' m' chs' (dch ds ++ C) w'.heap ∧ RpL D' ρ' a'.tmps.toList t' ∧ K t' m'
def zx5 (Q : zet) (md : List Nat) (T : List Value) (w : World) (ro hr : List Nat) (D : Fz) (ρ : List Loc) (m : Mem) (chs C : List zab) : Exit → Act → World → Prop
 | .normal, a', w' => UpY md T w ro hr D ρ m chs C (Q .nrm) a' w'
 | .exit id, a', w' => UpY md T w ro hr D ρ m chs C (Q (.ext id)) a' w'
 | .ret, a', w' => UpY md T w ro hr D ρ m chs C (Q .ret) a' w'
 | _, _, _ => False
theorem Nx.weakR {rx : List Nat} {D' : Fz} {ρ' : List Loc} {m' : Mem} {chs' : List zab} (n : Nx (rx ++ ro) hr D ρ m chs D' ρ' m' chs') : Nx ro hr D ρ m chs D' ρ' m' chs' where
 le := n.le
 pre := n.pre
 keep := n.keep
 same b h1 h2 := n.same b (by rw [inL_iff] at h1 ⊢; simp at h1 ⊢; rcases h1 with h1 | h1 <;> simp [h1]) h2
 len := n.len
theorem UpY.mono {md md' : List Nat} {w : World} {K K' : List V → Mem → Prop} {a' : Act} {w' : World} (h : UpY md T w ro hr D ρ m chs C K a' w') (hm : ∀ i ∈ md, i ∈ md') (hK : ∀ t m, K t m → K' t m) : UpY md' T w ro hr D ρ m chs C K' a' w' where
 sm := h.sm
 ag := h.ag.mono hm
 ex := let ⟨ds, D', ρ', m', c', t', e, n, M, F, k⟩ := h.ex; ⟨ds, D', ρ', m', c', t', e, n, M, F, hK _ _ k⟩
theorem UpY.weakR {rx md : List Nat} {w : World} {K : List V → Mem → Prop} {a' : Act} {w' : World} (h : UpY md T w (rx ++ ro) hr D ρ m chs C K a' w') : UpY md T w ro hr D ρ m chs C K a' w' where
 sm := h.sm
 ag := h.ag
 ex := let ⟨ds, D', ρ', m', c', t', e, n, M, F, k⟩ := h.ex; ⟨ds, D', ρ', m', c', t', e, n.weakR, M, F, k⟩
theorem UpY.after {md md' mD : List Nat} {w w1 : World} {a1 : Act} {D1 : Fz} {ρ1 : List Loc} {m1 : Mem} {c1 : List zab} {K' : List V → Mem → Prop} {a' : Act} {w' : World} (s1 : Same w w1) (g1 : Agr md T a1.tmps.toList) (n1 : Nx ro hr D ρ m chs D1 ρ1 m1 c1)
 (h2 : UpY md' a1.tmps.toList w1 ro hr D1 ρ1 m1 c1 C K' a' w') (hm : ∀ i ∈ md, i ∈ mD) (hm' : ∀ i ∈ md', i ∈ mD) : UpY mD T w ro hr D ρ m chs C K' a' w' where
 sm := s1.trans h2.sm
 ag := (g1.mono hm).trans (h2.ag.mono hm')
 ex := let ⟨ds, D', ρ', m', c', t', e, n, M, F, k⟩ := h2.ex; ⟨ds, D', ρ', m', c', t', e, n1.trans n, M, F, k⟩
theorem Stab.nx {X : Fz → List Loc → Prop} (hX : Stab X) {D' : Fz} {ρ' : List Loc} {m' : Mem} {chs' : List zab} (n : Nx ro hr D ρ m chs D' ρ' m' chs') (x : X D ρ) : X D' ρ' := by
 obtain ⟨s, rfl⟩ := n.pre; exact hX s x n.le
def YOk (P : Program) (Y : YC) (X : Fz → List Loc → Prop) : Prop :=
 match Y with
 | .it b f => ∀ {ro hr : List Nat} {args : List V} {m : Mem} {KS : V → Mem → Prop} {D : Fz} {ρ : List Loc} {chs C : List zab} {vs : List Value} {L : Loc} {w : World}, X D ρ → f ro hr args m KS → SAt D ρ m chs C w.heap → RpL D ρ vs args → ρ[b]? = some L →
  ∃ fn tmps assign body, (Instr.yield L.b vs.toArray).run P w = .ok (.round L.b fn tmps assign body) w ∧
    RoundIn (FW none) 0 P L.b fn tmps assign body w fun e w' => ∃ v, e = .returned v ∧ zc5 ro hr D ρ m chs C KS v w'.heap ∧ Same w w'
 | _ => True
theorem YOk.sub {Y : YC} {X : Fz → List Loc → Prop} (h : YOk P Y X) : YOk P Y.sub X := by
 cases Y <;> first | exact h | trivial
def YC.isRd : YC → Bool
 | .rd => true
 | _ => false
theorem YC.sub_rd (Y : YC) : Y.sub.isRd = false := by cases Y <;> rfl
def zsm (P : Program) (self : zsl) : Prop :=
 ∀ {Y : YC} {X : Fz → List Loc → Prop} {fi : Nat} {ro hr : List Nat} {c : Code} {Q : zet} {t : List V} {m : Mem} {D : Fz} {ρ : List Loc} {chs C : List zab} {a : Act} {w : World}, Stab X → YOk P Y X → Y.isRd = false → X D ρ → self Y fi ro hr c Q t m → SAt D ρ m chs C w.heap → RpL D ρ a.tmps.toList t → a.defers = [] →
   c.wpIn (FW none) 0 P (zx5 Q (zaw c) a.tmps.toList w ro hr D ρ m chs C) a w
theorem zzu {tmps : Array Value} (ht : tmps.toList = T) (F : RpL D ρ T t) (M : SAt D ρ m chs C h) : ∀ {l : List ResultVar} {K : List V → Prop}, resL P l t m K →
 ∃ vs xs, K xs ∧ RpL D ρ vs xs ∧ ∀ w : World, w.heap = h → (l.mapM (rvS tmps)).run P w = .ok vs w
 | [], K, hh => ⟨[], [], hh, .nil, fun w _ => by simp⟩
 | .tmp i :: l, K, hh => by
   simp only [resL] at hh
   obtain ⟨vs, xs, hK, hv, hr⟩ := zzu ht F M hh
   refine ⟨_, _, hK, .cons (F.get i) hv, fun w hw => ?_⟩
   have he : tmps.getD i undef = zc6 T i := by rw [← ht, zgj]; simp [z4s]
   have h1 : (rvS tmps (.tmp i)).run P w = .ok (zc6 T i) w := by rw [← he]; rfl
   simp only [z48, Sem.run_bind, h1, hr w hw, z2h]
   rfl
 | .cell i S :: l, K, hh => by
   simp only [resL] at hh
   obtain ⟨bb, oo, v, x, hv, hK, hvx, hrun⟩ := zzc hh M (F.get i) (bs := zae (zc7 t i)) fun b hb => inL_iff.2 hb
   obtain ⟨vs, xs, hK, hvs, hr⟩ := zzu ht F M hK
   refine ⟨_, _, hK, .cons hvx hvs, fun w hw => ?_⟩
   have he : tmps.getD i undef = .pointer (some ⟨bb, oo, none⟩) := by rw [← hv, ← ht, zgj]; simp [z4s]
   have h3 : (rvS tmps (.cell i S)).run P w = .ok v w := by
    show Sem.run P (do loadVar S (← asAddr (tmps.getD i undef))) w = _
    rw [he]
    simp only [asAddr, Sem.run_bind, Sem.run_pure, z2h, hrun w (M.hs _ hw)]
   simp only [z48, Sem.run_bind, h3, hr w hw, z2h]
   rfl
theorem zov : ∀ {Ts : List TypeId} {gc : Bool} {vs : List Value} {xs : List V}, RpL D ρ vs xs → RpL D ρ vs (zdv P gc Ts xs)
 | [], gc, vs, xs, h => by cases xs <;> exact h
 | S :: Ts, gc, vs, [], h => h
 | S :: Ts, gc, vs, x :: xs, h => by
   cases h with
   | cons a b =>
     simp only [zdv]
     cases gc
     · exact .cons (datV_S (zfb a)) (zov b)
     · exact .cons (zfb a) (zov b)
theorem one_S {vs : List Value} {xs : List V} (hv : RpL D ρ vs xs) : Rp D ρ (one vs) (oneV xs) := by
 cases hv with
 | nil => exact .t .nil
 | cons a b =>
   cases b with
   | nil => exact a
   | cons b c => exact .t (.cons a (.cons b c))
theorem ret_S {fn : Func} {tmps : Array Value} (ht : tmps.toList = T) (F : RpL D ρ T t) (M : SAt D ρ m chs C h) {KS : V → Mem → Prop} {gc : Bool} (hh : resL P fn.results.toList t m fun vs => KS (oneV (zdv P gc fn.resultTypes.toList vs)) m) :
 ∃ v x, KS x m ∧ Rp D ρ v x ∧ ∀ w : World, w.heap = h → (results fn tmps).run P w = .ok v w := by
 obtain ⟨vs, xs, hK, hv, hr⟩ := zzu ht F M hh
 refine ⟨_, _, hK, one_S (zov hv), fun w hw => ?_⟩
 have hf : results fn tmps = (fn.results.mapM (rvS tmps) >>= fun vs => pure (if h : vs.size = 1 then vs[0] else .tuple vs)) := by
  unfold results
  refine congrArg (· >>= _) (congrArg (Array.mapM · fn.results) (funext fun x => ?_))
  cases x <;> rfl
 have : (fn.results.mapM (rvS tmps)).run P w = .ok vs.toArray w := by
  rw [z6i, Sem.run_map, hr w hw]; rfl
 rw [hf, Sem.run_bind]
 rw [this]
 show Sem.run P (pure (if h : vs.toArray.size = 1 then vs.toArray[0] else .tuple vs.toArray)) w = _
 rw [zvj]
 rfl
theorem rep_z : ∀ n : Nat, RpL D ρ (z2g n undef) (z2g n .z)
 | 0 => .nil
 | n + 1 => .cons .z (rep_z n)
theorem frame_S {fn : Func} {vs : List Value} {args : List V} {gc : Bool} (ha : RpL D ρ vs args) : RpL D ρ (vs ++ z2g (fn.ntmps - vs.length) undef) (zd2 P gc fn args) := by
 unfold zd2
 rw [ha.len']
 exact (zov ha).app (rep_z _)
theorem body_S {self : zsl} (hself : zsm P self) {Y : YC} {X : Fz → List Loc → Prop} (hX : Stab X) (hY : YOk P Y X) (hYr : Y.isRd = false) (xx : X D ρ) {f fi : FuncId} {fn : Func} {c : Code} (hf : P.funcs[f]? = some fn) (hc : fn.body = some c) (hn : (fn.name == "runtime.NumGoroutine") = false) {args : List V} {vs : List Value} {KS : V → Mem → Prop}
 {gc : Bool} (hs : self Y fi ro hr c (zx9 P gc fn KS) (zd2 P gc fn args) m) (M : SAt D ρ m chs C h) (ha : RpL D ρ vs args) : Run P f vs h (zc5 ro hr D ρ m chs C KS) := by
 refine ⟨⟨fn, hf, hn, by simp [hc]⟩, fun w hw => ?_⟩
 subst hw
 refine (callsIn_wide (n := 0)).1 (callsIn_of_wp_marks (F := FW none) hf hc trivial ?_)
 have hl : (vs.toArray ++ Array.replicate (fn.ntmps - vs.toArray.size) undef : Array Value).toList = vs ++ z2g (fn.ntmps - vs.length) undef := by simp
 refine wpIn_mono (hself (a := { tmps := vs.toArray ++ Array.replicate (fn.ntmps - vs.toArray.size) undef, defers := [] }) hX hY hYr xx hs M (by rw [hl]; exact frame_S ha) rfl) fun e a' w' hq => ?_
 have fin : ∀ {md T}, UpY md T w ro hr D ρ m chs C (zx9 P gc fn KS .ret) a' w' → LeavesInM (FW none) 0 P fn a'.tmps (fun e w' => ∃ v, e = .returned v ∧ zc5 ro hr D ρ m chs C KS v w'.heap ∧ Same w w') a'.defers .returning w' := by
  intro md T hu
  obtain ⟨ds, D', ρ', m', c', t', e, n, M', F', k⟩ := hu.ex
  rw [e]
  refine z1c ds w' M' fun w2 M2 s2 => ?_
  obtain ⟨v, x, hK, hv, hr'⟩ := ret_S rfl F' M2 k
  exact ⟨v, hr' w2 rfl, v, rfl, ⟨D', ρ', m', c', x, n, M2, hv, hK⟩, hu.sm.trans s2⟩
 cases e with
 | normal => exact fin hq
 | ret => exact fin hq
 | exit id =>
   obtain ⟨ds, D', ρ', m', c', t', e, n, M', F', k⟩ := hq.ex
   exact k.elim
 | _ => exact hq.elim
theorem yield_S {X : Fz → List Loc → Prop} {Y : YC} (hY : YOk P Y X) (xx : X D ρ) {o : Oper} {b : Nat} {args : List V} {KS : V → Mem → Prop} {a : Act} {w : World} (hy : zbv t o = some (b, args)) (hs : Y.h ro hr b args m KS) (M : SAt D ρ m chs C w.heap) (F : RpL D ρ a.tmps.toList t) {r : Option Nat} {n : Nat}
 {next : Act → World → Prop} {Q : Exit → Act → World → Prop} (hn : ∀ v w', zc5 ro hr D ρ m chs C KS v w'.heap → Same w w' → next (a.put o.dst v) w') : o.wpIn (FW r) n P a w next Q := by
 unfold YC.h at hs
 split at hs
 · rename_i b' f
   obtain ⟨hb0, hs2⟩ := zaa hs
   have hb := z18 hb0
   subst hb
   unfold zbv at hy
   split at hy
   · rename_i c hc
     have hd' : ∀ c', o.op ≠ .defer c' := fun c' e => by rw [hc] at e; cases e
     split at hy
     · rename_i fo hf
       split at hy
       · rename_i b2 he
         cases hy
         have hv := zcj F fo
         rw [he] at hv
         generalize hev : ev a.tmps.toList fo = vf at hv
         cases hv with
         | @y _ LL hL =>
           obtain ⟨fn, tmps, assign, body, hy, hR⟩ := hY xx hs2 M (zt3 F c.args.toList) hL
           refine ⟨fun _ _ => trivial, ?_⟩
           rw [Oper.semAt_eq _ _ _ hd', zau]
           have hx : (execOp (ev a.tmps.toList) o).run P w = .ok (.round LL.b fn tmps assign body) w := by
            unfold execOp
            rw [hc]
            simp only [resolve, hf, hev, Deferred.ofValue, Sem.run_bind, Sem.run_pure, z2h, invoke]
            have : (#[] ++ c.args.map (ev a.tmps.toList) : Array Value) = (c.args.toList.map (ev a.tmps.toList)).toArray := by apply Array.ext'; simp
            rw [this]; exact hy
           rw [hx]
           refine ⟨fun hx => (by cases hx), RoundIn.mono (R := fun e w' => ∃ v, e = .returned v ∧ zc5 ro hr D ρ m chs C KS v w'.heap ∧ Same w w') ⟨hR.1, fun c cs hr => hR.2 c cs (room_wide _)⟩ fun e w' he => ?_⟩
           obtain ⟨v, rfl, hK, hS⟩ := he
           exact hn v w' hK hS
       · cases hy
     · cases hy
   · cases hy
 · exact hs.elim
theorem ztm {call : zb2} {X : Fz → List Loc → Prop} (hX : Stab X) (hcall : zf9 P X ro hr call) {Y : YC} (hY : YOk P Y X) {vw : Bool} {ops : List Oper} {K : List V → Mem → Prop} {md : List Nat} {Q : Exit → Act → World → Prop} {r : Option Nat} {n : Nat} :
 ∀ (l : List Oper) (a : Act) (w : World) (t : List V) (D : Fz) (ρ : List Loc) (m : Mem) (chs : List zab), zor P vw (hr ++ ro) call (Y.h ro hr) ops K l t m → X D ρ → SAt D ρ m chs C w.heap → RpL D ρ a.tmps.toList t → (∀ o ∈ l, zbf o = false) → (∀ o ∈ l, ∀ d, o.dst = some d → d ∈ md) →
   (∀ a' w', a'.defers = a.defers → Same w w' → Agr md a.tmps.toList a'.tmps.toList → (∃ D' ρ' m' chs' t', Nx ro hr D ρ m chs D' ρ' m' chs' ∧ SAt D' ρ' m' chs' C w'.heap ∧ RpL D' ρ' a'.tmps.toList t' ∧ K t' m') → Q .normal a' w') → wpListIn (FW r) n P ops.toArray Q l a w
 | [], a, w, t, D, ρ, m, chs, hs, _, M, F, _, _, hQ => hQ a w rfl (.refl w) (.refl _ _) ⟨D, ρ, m, chs, t, .refl, M, F, hs⟩
 | o :: l, a, w, t, D, ρ, m, chs, hs, xx, M, F, hd, hm, hQ => by
   have hput : ∀ v, Agr md a.tmps.toList (a.put o.dst v).tmps.toList := fun v => by rw [zbb]; exact .put v fun i hi => hm o (by simp) i hi
   have step : ∀ v w', zc5 ro hr D ρ m chs C (fun v m' => zor P vw (hr ++ ro) call (Y.h ro hr) ops K l (zso t o.dst v) m') v w'.heap → Same w w' → wpListIn (FW r) n P ops.toArray Q l (a.put o.dst v) w' := fun v w' hP hS => by
    obtain ⟨D', ρ', m', chs', x, nx, M', hv, hK⟩ := hP
    refine ztm hX hcall hY l (a.put o.dst v) w' _ D' ρ' m' chs' hK (hX.nx nx xx) M' (by rw [zbb]; exact (nx.rpL F).put hv) (fun o' ho' => hd o' (by simp [ho'])) (fun o' ho' => hm o' (by simp [ho'])) fun a' w'' h1 h2 h3 h4 => ?_
    obtain ⟨D2, ρ2, m2, c2, t2, n2, rr⟩ := h4
    exact hQ a' w'' (by rw [h1, zah]) (hS.trans h2) ((hput v).trans h3) ⟨D2, ρ2, m2, c2, t2, nx.trans n2, rr⟩
   unfold wpListIn
   rcases zt0 hs F with ⟨hw, h1⟩ | ⟨hw, h1⟩
   · rw [if_pos hw]
     cases hy : zbv t o with
     | some p => rw [hy] at h1; exact yield_S hY xx hy h1 M F step
     | none =>
       rw [hy] at h1
       exact zvi (hd o (by simp)) (op_S hcall xx h1 M F step)
   · rw [if_neg (by rw [hw]; simp)]
     refine ⟨fun _ _ => trivial, ?_⟩
     refine ztm hX hcall hY l (a.put o.dst undef) w _ D ρ m chs h1 xx M (by rw [zbb]; exact F.put (.t .nil)) (fun o' ho' => hd o' (by simp [ho'])) (fun o' ho' => hm o' (by simp [ho'])) fun a' w'' h2 h3 h4 h5 => ?_
     exact hQ a' w'' (by rw [h2, zah]) h3 ((hput undef).trans h4) h5
theorem least {p : Nat → Prop} (h : ∃ n, p n) : ∃ n, p n ∧ ∀ m, p m → n ≤ m := by
 obtain ⟨n, hn⟩ := h
 induction n using Nat.strongRecOn with
 | _ n ih =>
   by_cases hm : ∃ m, m < n ∧ p m
   · obtain ⟨m, hlt, hp⟩ := hm
     exact ih m hlt hp
   · exact ⟨n, hn, fun m hp => Nat.le_of_not_lt fun hlt => hm ⟨m, hlt, hp⟩⟩
open Classical in
noncomputable def zvt (p : Nat → Prop) : Nat := if h : ∃ n, p n then Classical.choose (least h) else 0
theorem zlf {p : Nat → Prop} (h : ∃ n, p n) : p (zvt p) ∧ ∀ m, p m → zvt p ≤ m := by
 unfold zvt
 rw [dif_pos h]
 exact Classical.choose_spec (least h)
theorem loopIn_n {Q : Exit → Act → World → Prop} {a : Act} {w : World} {c : Code} {r : Option Nat} {N : Nat} (I : Nat → Act → World → Prop) (h₀ : ∃ n, I n a w) (round : ∀ n a w, I n a w → c.wpIn (FW r) N P (Exit.then (fun a' w' => ∃ n', n' < n ∧ I n' a' w') Q) a w) : (Code.loop c).wpIn (FW r) N P Q a w := by
 refine wpIn_loop (fun a w => ∃ n, I n a w) (fun a w => zvt (fun n => I n a w)) h₀ fun a w hI => ?_
 refine wpIn_mono (round _ a w (zlf hI).1) fun e a' w' hq => ?_
 cases e with
 | normal =>
   obtain ⟨n', hlt, hI'⟩ := hq
   exact ⟨⟨n', hI'⟩, Nat.lt_of_le_of_lt ((zlf ⟨n', hI'⟩).2 n' hI') hlt⟩
 | _ => exact hq
theorem zpd {m : Mem} : ∀ (n : Nat) (todo acc : List Nat), ∃ tl, clo m n todo acc = acc ++ tl
 | 0, _, acc => ⟨[], by simp [clo]⟩
 | _ + 1, [], acc => ⟨[], by simp [clo]⟩
 | n + 1, b :: todo, acc => by
   simp only [clo]
   cases inL acc b with
   | true => exact zpd n _ _
   | false =>
     obtain ⟨tl, h⟩ := zpd n (za5 (mg m b) ++ todo) (acc ++ [b])
     exact ⟨b :: tl, by rw [cond_false, h]; simp⟩
mutual
theorem zzw {f : Nat → Nat} : ∀ {x : V}, (∀ b ∈ zae x, f b = b) → zcf f x = x
 | .r b o, h => by simp only [zcf]; rw [h b (by simp [zae])]
 | .e b s k o, h => by simp only [zcf]; rw [h b (by simp [zae])]
 | .g b o w k, h => by simp only [zcf]; rw [h b (by simp [zae])]
 | .w b, h => by simp only [zcf]; rw [h b (by simp [zae])]
 | .m b, h => by simp only [zcf]; rw [h b (by simp [zae])]
 | .y b, h => by simp only [zcf]; rw [h b (by simp [zae])]
 | .v b sz l n c, h => by simp only [zcf]; rw [h b (by simp [zae])]
 | .sl b o n, h => by simp only [zcf]; rw [h b (by simp [zae])]
 | .f g a c, h => by simp only [zcf]; rw [zdu fun b hb => h b (by simp [zae, hb]), zdu fun b hb => h b (by simp [zae, hb])]
 | .a l, h => by simp only [zcf]; rw [zdu fun b hb => h b (by simp [zae, hb])]
 | .t l, h => by simp only [zcf]; rw [zdu fun b hb => h b (by simp [zae, hb])]
 | .u x, _ => rfl
 | .q c o, _ => rfl
 | .c s r, _ => rfl
 | .nm, _ => rfl
 | .nl _, _ => rfl
 | .n k w l, _ => rfl
 | .z, _ => rfl
theorem zdu {f : Nat → Nat} : ∀ {x : List V}, (∀ b ∈ zam x, f b = b) → zd8 f x = x
 | [], _ => rfl
 | v :: l, h => by simp only [zd8]; rw [zzw fun b hb => h b (by simp [zam, hb]), zdu fun b hb => h b (by simp [zam, hb])]
end
theorem zzz {f : Nat → Nat} {a : AB} (h : ∀ b ∈ za5 a, f b = b) : zob f a = a := by
 cases a <;> first | rfl | (simp only [zob]; rw [zdu h])
theorem zne {tl : List Nat} : ∀ {n k b : Nat}, k ≤ b → b < k + n → zh9 ((List.range' k n) ++ tl) b k = b
 | 0, k, b, h1, h2 => by omega
 | n + 1, k, b, h1, h2 => by
   simp only [List.range'_succ, z3r, zh9]
   by_cases h : k = b
   · subst h; simp
   · have : z14 k b = false := by
      cases hc : z14 k b with
      | false => rfl
      | true => exact absurd (z18 hc) h
     rw [this, cond_false]
     exact zne (by omega) (by omega)
theorem zpf {m0 : Mem} {D0 : Fz} {ρ0 : List Loc} {c0 C0 : List zab} {h0 : zac} (M0 : SAt D0 ρ0 m0 c0 C0 h0) {K : List V → Mem → Prop} (hs : zdh m0.length K t m) (n : Nx ro hr D0 ρ0 m0 c0 D ρ m chs) (M : SAt D ρ m chs C h) (F : RpL D ρ T t) :
 ∃ ρ2 m2 c2 t2, Nx ro hr D0 ρ0 m0 c0 D ρ2 m2 c2 ∧ SAt D ρ2 m2 c2 C h ∧ RpL D ρ2 T t2 ∧ K t2 m2 := by
 unfold zdh at hs
 cases hb : z19 m.length (m0.length + 1) with
 | true => rw [hb] at hs; exact ⟨ρ, m, chs, t, n, M, F, hs⟩
 | false =>
   rw [hb] at hs
   simp only [cond_false] at hs
   have hnd : (clo m 1000 (zam t ++ (m.take m0.length).flatMap za5) (z2b m0.length)).Nodup := zfj _ _ _ List.nodup_range
   obtain ⟨tl, htl⟩ := zpd (m := m) 1000 (zam t ++ (m.take m0.length).flatMap za5) (z2b m0.length)
   rw [htl] at hs hnd
   unfold canonK at hs
   obtain ⟨hc, hK⟩ := zaa hs
   simp only [z17] at hc
   have q1 := zb0 hc.1.1
   have q2 := zb0 hc.1.2
   have q3 := zd4 hc.2
   obtain ⟨c', cs, hcs, Mk, gk, Ms⟩ := M.sub2 hnd q3 fun b hb c hc => q2 c (z5u.2 ⟨b, hb, hc⟩)
   obtain ⟨s, hs⟩ := n.pre
   have hl0 := M0.len
   have hlen := n.len
   have hix : ∀ b, b < m0.length → (z2b m0.length ++ tl)[b]? = some b := fun b hb => by
    rw [z2k (by simpa using hb), z5s hb]
   have hρ : (z2b m0.length ++ tl).map (fun b => (ρ[b]?).getD ⟨0, none, 0, 0, none⟩) = ρ0 ++ tl.map (fun b => (ρ[b]?).getD ⟨0, none, 0, 0, none⟩) := by
    rw [z28]
    congr 1
    apply z4m (by simp [hl0])
    intro i h1 h2
    simp only [z4p, z58]
    rw [hs, z2k h2, z2c h2]; rfl
   rw [hρ] at Ms
   have F2 := (ren_all (D := D) (ρ := ρ) (f := fun b => zh9 (z2b m0.length ++ tl) b 0) (ρ' := (z2b m0.length ++ tl).map (fun b => (ρ[b]?).getD ⟨0, none, 0, 0, none⟩))).2.1 F fun b hb L hL => by
    obtain ⟨k, h4, h5⟩ := zfu (k := 0) (q1 b hb)
    rw [h4, z2l, z2i, h5, z3h, hL]; rfl
   rw [hρ] at F2
   refine ⟨_, _, cs, _, ⟨n.le, ⟨_, rfl⟩, fun b h1 h2 => ?_, fun b h1 h2 => ?_, ?_⟩, Ms.mono (.refl _) (C' := C) ?_, F2, hK⟩
   · rw [hcs, z2i, hix b h2, z3h, ← n.keep b h1 h2]
     have : b < chs.length := by rw [M.lch]; omega
     rw [z2c this]; rfl
   · have e1 : mg (zm2 m (z2b m0.length ++ tl)) b = zob (fun b => zh9 (z2b m0.length ++ tl) b 0) (mg m b) := by
      rw [zkk, zm2, z2i, hix b h2]; rfl
     rw [e1, n.same b h1 h2]
     refine zzz fun c hcr => ?_
     have hbρ : b < ρ0.length := by omega
     have hbc : b < c0.length := by rw [M0.lch]; exact h2
     have he := M0.ent b _ _ _ (z2c hbρ) (zrb h2) (z2c hbc)
     have key : ∀ {L : Loc} {ab : AB} {ch : zab}, Ent D0 ρ0 L ab ch → ∀ c ∈ za5 ab, c < ρ0.length := fun he => by
      cases he with
      | c hc => exact refs_lt.2.2 hc
      | cw _ _ hc => exact refs_lt.2.2 hc
      | _ => simp [za5]
     have hcl : c < ρ0.length := key he c hcr
     have := zne (tl := tl) (n := m0.length) (k := 0) (b := c) (z3j _) (by omega)
     rwa [← List.range_eq_range'] at this
   · simp [zm2]
   · have S := Ms.st
     exact (S.perm (C' := c' ++ (cs ++ C)) (by simp only [z21]; exact z3g _ _ _)).drops
theorem wkV_S {v : Value} {x : V} (hv : Rp D ρ v x) : Rp D ρ v (wkV x) := by
 unfold wkV
 split
 · cases hv; exact .c (.nil _ _ _)
 · exact hv
theorem zwk {H : SH P} {self : zsl} (hself : zsm P self) {Y : YC} {X : Fz → List Loc → Prop} (hX : Stab X) (hY : YOk P Y X) (hYr : Y.isRd = false) : zf9 P X ro hr (zi4 P H (self Y) ro hr) := by
 intro g args m KS D ρ chs C h vs xx hs M ha
 unfold zi4 at hs
 cases hf : P.funcs[g]? with
 | none => rw [hf] at hs; exact hs.elim
 | some fn =>
   rw [hf] at hs
   simp only at hs
   cases hi : inL H.inl g with
   | true =>
     rw [hi] at hs
     simp only [cond_true] at hs
     split at hs
     · exact hs.elim
     · rename_i c hc
       cases hn : (fn.name == "runtime.NumGoroutine") with
       | true => rw [hn] at hs; exact hs.elim
       | false =>
         rw [hn] at hs
         refine (body_S (fi := g) hself hX hY hYr xx hf hc hn hs M ha).mono fun v h' hp => ?_
         obtain ⟨D', ρ', m', c', x, n', M', hv, hk⟩ := hp
         cases hg : H.gc with
         | false => rw [hg] at hk; exact ⟨D', ρ', m', c', x, n', M', hv, hk⟩
         | true =>
           rw [hg] at hk
           have hk : zdh m.length (fun t m2 => KS (zc7 t 0) m2 ∨ KS (wkV (zc7 t 0)) m2) [x] m' := hk
           obtain ⟨ρ2, m2, c2, t2, n2, M2, F2, k2⟩ := zpf (T := [v]) M hk n' M' (.cons hv .nil)
           cases F2 with
           | cons hv2 hn2 =>
             cases hn2
             rcases k2 with k2 | k2
             · exact ⟨D', ρ2, m2, c2, _, n2, M2, hv2, k2⟩
             · exact ⟨D', ρ2, m2, c2, _, n2, M2, wkV_S hv2, k2⟩
   | false =>
     rw [hi] at hs
     exact callS_S hs M ha
theorem callH_S {H : SH P} {self : zsl} (hself : zsm P self) {Y : YC} {X : Fz → List Loc → Prop} (hX : Stab X) (hY : YOk P Y X) (hYr : Y.isRd = false) : zf9 P X ro hr (zt8 P H (self Y) ro hr) := by
 intro g args m KS D ρ chs C h vs xx hs M ha
 unfold zt8 at hs
 split at hs
 · rename_i p hp
   exact H.sp.ok hX (zwk hself hX hY hYr) hp hs xx M ha
 · exact zwk hself hX hY hYr xx hs M ha
theorem setA_S : ∀ {ps : List Tmp} {T vs : List Value} {t xs : List V}, RpL D ρ T t → RpL D ρ vs xs → RpL D ρ (ze1 T ps vs) (setA t ps xs)
 | [], T, vs, t, xs, F, hx => by cases vs <;> cases xs <;> exact F
 | p :: ps, T, [], t, xs, F, hx => by cases hx; exact F
 | p :: ps, T, v :: vs, t, xs, F, hx => by
   cases hx with
   | cons a b =>
     have := setA_S (ps := ps) (F.set p a) b
     exact this
theorem SAt.recd (M : SAt D ρ m chs C h) {b l : Nat} {o : Obj} {L : Loc} (hL : ρ[b]? = some L) (hl : L.b = l) (ho : L.o = some o) (hb : mg m b = .tk) : ∃ L, ρ[b]? = some L ∧ L.b = l ∧ chs[b]? = some [(l, o)] ∧ SAt D ρ (ms m b .x) (chs.set b []) ([(l, o)] :: C) h ∧ b < m.length := by
 obtain ⟨L', ch, h1, h2, h3⟩ := M.get (b := b) (by rw [hb]; simp)
 rw [hb] at h3
 rw [hL] at h1
 cases h1
 subst hl
 cases h3 with
 | tk h4 =>
   rw [ho] at h4
   cases h4
   exact ⟨L, hL, rfl, h2, M.take hL h2, by rw [← M.len]; exact (z2a.1 hL).1⟩
theorem SAt.back {l : Nat} {o : Obj} (M : SAt D ρ m chs ([(l, o)] :: C) h) {b : Nat} {L : Loc} (hb : b < m.length) (hL : ρ[b]? = some L) (hl : L.b = l) (ho : L.o = some o) : SAt D ρ (ms m b .tk) (chs.set b [(l, o)]) C h := by
 subst hl
 exact M.over hb hL (.tk ho)
theorem vcC_S (hmix : P.follows .mixedOrders = true) {H : SH P} {self : zsl} (hself : zsm P self) {fi : Nat} : ∀ (c : Code) (r : Option Nat) (Y : YC) (X : Fz → List Loc → Prop) (hr ro : List Nat) (Q : zet) (t : List V) (m : Mem) (D : Fz) (ρ : List Loc) (chs C : List zab) (a : Act) (w : World) (ds : List Nat),
 Stab X → YOk P Y X → (Y.isRd = false → r = none) → X D ρ → vcC P H self fi c Y hr ro Q t m → SAt D ρ m chs (dch ds ++ C) w.heap → RpL D ρ a.tmps.toList t → a.defers = ds.map mark →
 c.wpIn (FW r) 0 P (zx5 Q (zaw c) a.tmps.toList w ro hr D ρ m chs C) a w := by
 intro c
 induction c with
 | skip => intro r Y X hr ro Q t m D ρ chs C a w ds hX hY hrd xx hh M F hd; exact wpIn_skip ⟨.refl w, .refl _ _, ds, D, ρ, m, chs, t, hd, .refl, M, F, hh⟩
 | region id ops d =>
   intro r Y X hr ro Q t m D ρ chs C a w ds hX hY hrd xx hh M F hd
   simp only [vcC] at hh
   obtain ⟨hnd, hh⟩ := zaa hh
   have hnd' : ∀ o ∈ ops.toList, zbf o = false := fun o ho => by simpa using z29.1 hnd o ho
   have hm : ∀ o ∈ ops.toList, ∀ d', o.dst = some d' → d' ∈ zaw (.region id ops d) := fun o ho d' hd' => by
    simp only [zaw, z2f]
    exact .inl (List.mem_filterMap.2 ⟨o, ho, hd'⟩)
   cases d with
   | false =>
     have := ztm (P := P) (vw := H.gc) (r := r) (n := 0) hX (callH_S (H := H) (self := self) (ro := ro) (hr := hr) hself hX hY.sub Y.sub_rd) hY (Q := zx5 Q (zaw (.region id ops false)) a.tmps.toList w ro hr D ρ m chs C) ops.toList a w t D ρ m chs hh xx M F hnd' hm fun a' w' h1 h2 h3 h4 => by
      obtain ⟨D', ρ', m', c', t', n', M', F', k⟩ := h4
      exact ⟨h2, h3, ds, D', ρ', m', c', t', by rw [h1, hd], n', M', F', k⟩
     refine wpIn_region_list ?_
     simpa using this
   | true =>
     obtain ⟨hB, hh⟩ := zaa hh
     refine wpIn_region_any hmix ?_
     rw [z17] at hB
     obtain ⟨hB, hsel⟩ := hB
     let QQ : Exit → Act → World → Prop := fun e a' w' => e = .normal ∧ UpS (zaw (.region id ops true)) a.tmps.toList w ro hr D ρ m chs (dch ds ++ C) (zdh m.length (Q .nrm)) a' w'
     have key := draw_S (P := P) (X := X) (fun s => hX s) (md := zaw (.region id ops true)) (Q := QQ) (call := zt8 P H (self Y.sub) ro) (fun hx => callH_S (H := H) (self := self) (Y := Y.sub) hself hX hY.sub Y.sub_rd) hsel (fun _ _ _ h => by cases h.1) (fun _ _ h => by cases h.1) hm ops.toList.length [] [] [] (Array.replicate ops.toList.length false) { a with defers := [] }
      { w with drawn := w.drawn + 1 } t D ρ m chs hh hB ⟨by simp, fun k hk => by rw [ztb true hk]; simp, fun k hk => by simp at hk⟩ (fun j oj hj hl => by rw [zn8] at hl; cases hl)
      rfl xx M F (by intro c hc; simp at hc) (fun a' w' hU => ⟨rfl, hU.df, ⟨hU.sm.tape, hU.sm.os, hU.sm.output, Nat.le_trans (Nat.le_succ _) hU.sm.drawn⟩, hU.ag, hU.ex⟩)
     have h1 := zyi _ _ _ _ _ key
     have h2 := zsg (r := r) (n := 0) (ds := a.defers) (by simpa using hnd') (fun ⟨_, _, h⟩ => by cases h.1) _ _ _ _ h1
     have h3 := anyq_mono (Qb := zx5 Q (zaw (.region id ops true)) a.tmps.toList w ro hr D ρ m chs C) (fun e a1 w1 hq => by
      obtain ⟨a0, ⟨rfl, hU⟩, rfl⟩ := hq
      obtain ⟨D', ρ', m', c', t', n', M', F', k⟩ := hU.ex
      obtain ⟨ρ2, m2, c2, t2, n2, M2, F2, k2⟩ := zpf M k n' M' F'
      exact ⟨hU.sm, hU.ag, ds, D', ρ2, m2, c2, t2, by rw [hU.df, z3f, hd], n2, M2, F2, k2⟩) _ _ _ _ h2
     have e : ({ a with defers := [] ++ a.defers } : Act) = a := by cases a; rfl
     rw [z3f] at h3
     simpa using h3
 | seq x y ihx ihy =>
   intro r Y X hr ro Q t m D ρ chs C a w ds hX hY hrd xx hh M F hd
   simp only [vcC] at hh
   have hmx : ∀ i ∈ zaw x, i ∈ zaw (.seq x y) := fun i hi => by simp only [zaw, z2f]; exact .inl hi
   have hmy : ∀ i ∈ zaw y, i ∈ zaw (.seq x y) := fun i hi => by simp only [zaw, z2f]; exact .inr hi
   have go : ∀ (rx : List Nat) (K : List V → Mem → Prop), vcC P H self fi x Y hr (rx ++ ro) (zs2 K Q) t m →
    (∀ a1 w1, UpY (zaw x) a.tmps.toList w (rx ++ ro) hr D ρ m chs C K a1 w1 → ∃ ds1 D1 ρ1 m1 c1 t1, a1.defers = ds1.map mark ∧ Nx ro hr D ρ m chs D1 ρ1 m1 c1 ∧ SAt D1 ρ1 m1 c1 (dch ds1 ++ C) w1.heap ∧ RpL D1 ρ1 a1.tmps.toList t1 ∧ vcC P H self fi y Y hr ro Q t1 m1) →
    (Code.seq x y).wpIn (FW r) 0 P (zx5 Q (zaw (.seq x y)) a.tmps.toList w ro hr D ρ m chs C) a w := by
    intro rx K hx hK
    refine wpIn_seq (wpIn_mono (ihx r Y X hr _ _ t m D ρ chs C a w ds hX hY hrd xx hx M F hd) fun e a1 w1 hq => ?_)
    cases e with
    | normal =>
      obtain ⟨ds1, D1, ρ1, m1, c1, t1, e1, n1, M1, F1, hy⟩ := hK a1 w1 hq
      refine wpIn_mono (ihy r Y X hr ro Q t1 m1 D1 ρ1 c1 C a1 w1 ds1 hX hY hrd (hX.nx n1 xx) hy M1 F1 e1) fun e a2 w2 hq2 => ?_
      cases e with
      | normal => exact UpY.after hq.sm hq.ag n1 hq2 hmx hmy
      | exit id => exact UpY.after hq.sm hq.ag n1 hq2 hmx hmy
      | ret => exact UpY.after hq.sm hq.ag n1 hq2 hmx hmy
      | _ => exact hq2.elim
    | exit id => exact (UpY.mono hq hmx fun _ _ h => h).weakR
    | ret => exact (UpY.mono hq hmx fun _ _ h => h).weakR
    | _ => exact hq.elim
   split at hh
   · exact go [] _ hh fun a1 w1 hU => hU.ex
   · rename_i hint hf
     obtain ⟨hc, hh⟩ := zaa hh
     simp only [z17] at hc
     refine go _ _ (hh (mkP hint.ps fun is => vcC P H self fi y Y hr ro Q (hint.st (zaw x) t m is).1 (hint.st (zaw x) t m is).2) (allP_self _ _)) fun a1 w1 hU => ?_
     obtain ⟨ds1, D1, ρ1, m1, c1, t1, e1, n1, M1, F1, hk⟩ := hU.ex
     have hk : hint.el (hint.base t m) (mkP hint.ps fun is => vcC P H self fi y Y hr ro Q (hint.st (zaw x) t m is).1 (hint.st (zaw x) t m is).2) t1 m1 := hk
     unfold Hint.el at hk
     split at hk
     · rename_i os mR hpk
       obtain ⟨hal, hk⟩ := zaa hk
       obtain ⟨ρ2, c2, n2, M2, F2, ok⟩ := zzr hc.1 hc.2 M F n1 M1 F1 hU.ag hpk hal
       rw [apP_mk ok] at hk
       exact ⟨ds1, D1, ρ2, _, c2, _, e1, n2.weakR, M2, F2, hk⟩
     · exact hk.elim
 | cond c x y ihx ihy =>
   intro r Y X hr ro Q t m D ρ chs C a w ds hX hY hrd xx hh M F hd
   simp only [vcC] at hh
   have hmx : ∀ i ∈ zaw x, i ∈ zaw (.cond c x y) := fun i hi => by simp only [zaw, z2f]; exact .inl hi
   have hmy : ∀ i ∈ zaw y, i ∈ zaw (.cond c x y) := fun i hi => by simp only [zaw, z2f]; exact .inr hi
   split at hh
   · rename_i b he
     have hv := zcj F c
     rw [he] at hv
     refine wpIn_cond (t := b) (by rw [zau]; exact zqa hv) ?_
     cases b
     · exact wpIn_mono (ihy r Y X hr ro Q t m D ρ chs C a w ds hX hY hrd xx hh M F hd) fun e a' w' hq => by
        cases e <;> first | exact UpY.mono hq hmy fun _ _ h => h | exact hq.elim
     · exact wpIn_mono (ihx r Y X hr ro Q t m D ρ chs C a w ds hX hY hrd xx hh M F hd) fun e a' w' hq => by
        cases e <;> first | exact UpY.mono hq hmx fun _ _ h => h | exact hq.elim
   · exact hh.elim
 | block id c ih =>
   intro r Y X hr ro Q t m D ρ chs C a w ds hX hY hrd xx hh M F hd
   simp only [vcC] at hh
   refine wpIn_block (wpIn_mono (ih r Y X hr ro _ t m D ρ chs C a w ds hX hY hrd xx hh M F hd) fun e a' w' hq => ?_)
   cases e with
   | normal => exact hq
   | exit j =>
     simp only [Exit.inBlock]
     by_cases hj : j = id
     · rw [if_pos hj]
       exact UpY.mono hq (fun _ h => h) fun t h hk => by simpa [zwo, hj] using hk
     · rw [if_neg hj]
       have hb : z14 j id = false := by
        cases h : z14 j id with
        | false => rfl
        | true => exact absurd (z18 h) hj
       exact UpY.mono hq (fun _ h => h) fun t h hk => by simpa [zwo, hb] using hk
   | ret => exact hq
   | _ => exact hq.elim
 | loop c ih =>
   intro r Y X hr ro Q t m D ρ chs C a w ds hX hY hrd xx hh M F hd
   simp only [vcC] at hh
   split at hh
   · -- round by round
     refine wpIn_loop_rounds H.n ?_
     have key : ∀ (n : Nat) (t : List V) (m1 : Mem) (D1 : Fz) (ρ1 : List Loc) (c1 : List zab) (a1 : Act) (w1 : World) (ds1 : List Nat), rnds (cond H.gc (some m.length) none) (fun Q => vcC P H self fi c Y hr ro Q) Q n t m1 → X D1 ρ1 → SAt D1 ρ1 m1 c1 (dch ds1 ++ C) w1.heap → RpL D1 ρ1 a1.tmps.toList t → a1.defers = ds1.map mark →
      Same w w1 → Agr (zaw c) a.tmps.toList a1.tmps.toList → Nx ro hr D ρ m chs D1 ρ1 m1 c1 → Code.roundsIn (FW r) 0 P c (zx5 Q (zaw c) a.tmps.toList w ro hr D ρ m chs C) n a1 w1 := by
      intro n
      induction n with
      | zero => intro t m1 D1 ρ1 c1 a1 w1 ds1 hh; exact hh.elim
      | succ n ihn =>
        intro t m1 D1 ρ1 c1 a1 w1 ds1 hh x1 M1 F1 hd1 s1 g1 n1
        refine wpIn_mono (ih r Y X hr ro _ t m1 D1 ρ1 c1 C a1 w1 ds1 hX hY hrd x1 hh M1 F1 hd1) fun e a2 w2 hq => ?_
        cases e with
        | normal =>
          obtain ⟨ds2, D2, ρ2, m2, c2, t2, e2, n2, M2, F2, hk⟩ := hq.ex
          have g : ∃ ρ3 m3 c3 t3, Nx ro hr D ρ m chs D2 ρ3 m3 c3 ∧ SAt D2 ρ3 m3 c3 (dch ds2 ++ C) w2.heap ∧ RpL D2 ρ3 a2.tmps.toList t3 ∧ rnds (cond H.gc (some m.length) none) (fun Q => vcC P H self fi c Y hr ro Q) Q n t3 m3 := by
           generalize hG : cond H.gc (some m.length) none = G at hk
           cases hg : H.gc with
           | false => rw [hg] at hG; cases hG; exact ⟨ρ2, m2, c2, t2, n1.trans n2, M2, F2, hk⟩
           | true => rw [hg] at hG; cases hG; exact zpf M hk (n1.trans n2) M2 F2
          obtain ⟨ρ3, m3, c3, t3, n3, M3, F3, k3⟩ := g
          exact ihn t3 m3 D2 ρ3 c3 a2 w2 ds2 k3 (hX.nx n3 xx) M3 F3 e2 (s1.trans hq.sm) (g1.trans hq.ag) n3
        | exit id => exact UpY.after s1 g1 n1 hq (fun _ h => h) fun _ h => h
        | ret => exact UpY.after s1 g1 n1 hq (fun _ h => h) fun _ h => h
        | _ => exact hq.elim
     exact key H.n t m D ρ chs a w ds hh xx M F hd (.refl w) (.refl _ _) .refl
   · rename_i hint hf
     obtain ⟨hc, I, f, h0, hr'⟩ := zaa hh
     simp only [z17] at hc
     -- a state at the head
     have head : ∀ {D1 : Fz} {ρ1 : List Loc} {m1 : Mem} {c1 C1 : List zab} {t1 : List V} {a1 : Act} {w1 : World} {n : Nat} {J : PtT Prop hint.ps}, Nx (zx8 (hint.base t m) 0 ++ ro) hr D ρ m chs D1 ρ1 m1 c1 → SAt D1 ρ1 m1 c1 C1 w1.heap → RpL D1 ρ1 a1.tmps.toList t1 → Agr (zaw c) a.tmps.toList a1.tmps.toList →
      hint.el (hint.base t m) J t1 m1 → ∃ os ρ2 c2, OkL hint.ps os ∧ apP False hint.ps J os ∧ Nx (zx8 (hint.base t m) 0 ++ ro) hr D ρ m chs D1 ρ2 (hint.st (zaw c) t m os).2 c2 ∧ SAt D1 ρ2 (hint.st (zaw c) t m os).2 c2 C1 w1.heap ∧ RpL D1 ρ2 a1.tmps.toList (hint.st (zaw c) t m os).1 := by
      intro D1 ρ1 m1 c1 C1 t1 a1 w1 n J n1 M1 F1 ag hk
      unfold Hint.el at hk
      split at hk
      · rename_i os mR hpk
        obtain ⟨hal, hk⟩ := zaa hk
        obtain ⟨ρ2, c2, n2, M2, F2, ok⟩ := zzr hc.1 hc.2 M F n1 M1 F1 ag hpk hal
        exact ⟨os, ρ2, c2, ok, hk, n2, M2, F2⟩
      · exact hk.elim
     refine loopIn_n (fun k a1 w1 => Same w w1 ∧ Agr (zaw c) a.tmps.toList a1.tmps.toList ∧ ∃ ds1 D1 os ρ2 c2, a1.defers = ds1.map mark ∧ OkL hint.ps os ∧ apP False hint.ps I os ∧ apP 0 hint.ps f os = k ∧ Nx (zx8 (hint.base t m) 0 ++ ro) hr D ρ m chs D1 ρ2 (hint.st (zaw c) t m os).2 c2 ∧
      SAt D1 ρ2 (hint.st (zaw c) t m os).2 c2 (dch ds1 ++ C) w1.heap ∧ RpL D1 ρ2 a1.tmps.toList (hint.st (zaw c) t m os).1) ?_ fun k a1 w1 hI => ?_
     · obtain ⟨os, ρ2, c2, ok, hi, n2, M2, F2⟩ := head (n := 0) .refl M F (.refl _ _) h0
       exact ⟨_, .refl w, .refl _ _, ds, D, os, ρ2, c2, hd, ok, hi, rfl, n2, M2, F2⟩
     · obtain ⟨s1, g1, ds1, D1, os, ρ2, c2, hd1, ok, hi, hk, n2, M2, F2⟩ := hI
       have hb := allP_ap ok hr'
       rw [zuh (d1 := False) (d2 := False) ok, zuh (d1 := 0) (d2 := fun _ => False) ok, apP_mk ok] at hb
       have hb := hb hi
       refine wpIn_mono (ih r Y X hr _ _ _ _ D1 ρ2 c2 C a1 w1 ds1 hX hY hrd (hX.nx n2 xx) hb M2 F2 hd1) fun e a2 w2 hq => ?_
       cases e with
       | normal =>
         obtain ⟨ds3, D3, ρ3, m3, c3, t3, e3, n3, M3, F3, hk3⟩ := hq.ex
         have ag3 := g1.trans hq.ag
         obtain ⟨os4, ρ4, c4, ok4, hi4, n4, M4, F4⟩ := head (n := 0) (n2.trans n3) M3 F3 ag3 hk3
         rw [zuh (d1 := False) (d2 := 0) ok4] at hi4
         exact ⟨_, by rw [← hk]; exact hi4.2, s1.trans hq.sm, ag3, ds3, D3, os4, ρ4, c4, e3, ok4, hi4.1, rfl, n4, M4, F4⟩
       | exit id => exact (UpY.after s1 g1 n2 hq (fun _ h => h) fun _ h => h).weakR
       | ret => exact (UpY.after s1 g1 n2 hq (fun _ h => h) fun _ h => h).weakR
       | _ => exact hq.elim
 | exit id => intro r Y X hr ro Q t m D ρ chs C a w ds hX hY hrd xx hh M F hd; exact wpIn_exit ⟨.refl w, .refl _ _, ds, D, ρ, m, chs, t, hd, .refl, M, F, hh⟩
 | ret => intro r Y X hr ro Q t m D ρ chs C a w ds hX hY hrd xx hh M F hd; exact wpIn_ret ⟨.refl w, .refl _ _, ds, D, ρ, m, chs, t, hd, .refl, M, F, hh⟩
 | scope c ih =>
   intro r Y X hr ro Q t m D ρ chs C a w ds hX hY hrd xx hh M F hd
   refine zmy (wpIn_mono (ih r Y X hr ro Q t m D ρ chs C a w ds hX hY hrd xx hh M F hd) fun e a' w' hq => ?_)
   cases e <;> first | exact hq | exact hq.elim
 | label l => intro r Y X hr ro Q t m D ρ chs C a w ds hX hY hrd xx hh M F hd; exact wpIn_label ⟨.refl w, .refl _ _, ds, D, ρ, m, chs, t, hd, .refl, M, F, hh⟩
 | rangeFunc g ps assign body iha ihb =>
   intro r Y X hr ro Q t m D ρ chs C a w ds hX hY hrd xx hh M F hd
   cases Y with
   | rd => simp [vcC] at hh
   | it b f => simp [vcC] at hh
   | out =>
     have hr0 := hrd rfl
     subst hr0
     simp only [vcC] at hh
     split at hh
     · rename_i gi as' cs hg
       split at hh
       · exact hh.elim
       · rename_i gfn hgf
         split at hh
         · exact hh.elim
         · rename_i gc hgc
           cases hng : (gfn.name == "runtime.NumGoroutine" || !noEx body) with
           | true => rw [hng] at hh; exact hh.elim
           | false =>
             rw [hng] at hh
             simp only [cond_false, z49] at hh hng
             refine wpIn_rangeFunc ?_
             intro fn _
             obtain ⟨rc, hrc⟩ : ∃ rc : LoopState → Loop, rc = fun st => { state := st, pending := none, fn, tmps := a.tmps, params := ps, assign, body, defers := w.heap.size } := ⟨_, rfl⟩
             let l := w.heap.size + 1
             let h2 : zac := (w.heap.push (.deferred (some []))).push (.loop (rc .ready))
             have hl : (w.heap.push (Obj.deferred (some []))).size = l := by simp [l]
             let L : Loc := ⟨l, none, 0, 0, some (.loop (rc .ready))⟩
             have M0 : SAt D ρ m chs ([(l, .loop (rc .ready))] :: (dch (w.heap.size :: ds) ++ C)) h2 := by
              have := (M.cpush (.deferred (some []))).cpush (.loop (rc .ready))
              rw [hl] at this
              exact this
             have M1 : SAt D (ρ ++ [L]) (m ++ [.tk]) (chs ++ [[(l, .loop (rc .ready))]]) (dch (w.heap.size :: ds) ++ C) h2 := M0.push (.tk rfl)
             have hbL : ∀ s : List Loc, (ρ ++ [L] ++ s)[m.length]? = some L := fun s => by rw [← M.len]; simp
             have hYf := hh
             let X' : Fz → List Loc → Prop := fun D' ρ' => Le D D' ∧ ∃ s, ρ' = ρ ++ [L] ++ s
             have hX' : Stab X' := fun {D1 D2 ρ1} s ⟨h1, s1, e1⟩ h3 => ⟨h1.trans h3, s1 ++ s, by rw [e1]; simp⟩
             -- the rounds
             have hY' : YOk P (.it m.length fun ro' hr' args m1 K => isY (mg m1 m.length) (cond (z14 args.length ps.size) (vcC P H self fi assign .rd hr' ro'
              (zs2 (fun t2 m2 => vcC P H self fi body .rd hr' ro' (fun e _ m3 => match e, mg m3 m.length with
               | .nrm, .x => K (.u (.b true)) (ms m3 m.length .tk)
               | _, _ => False) t2 m2) fun _ _ _ => False) (setA t ps.toList args) (ms m1 m.length .x)) False)) X' := by
              intro ro' hr' args m1 KS D1 ρ1 c1 C1 vs L1 w1 x1 hf M1 hvs hL1
              obtain ⟨hle, s1, rfl⟩ := x1
              rw [hbL] at hL1
              cases hL1
              obtain ⟨hm1, hf⟩ := z1g hf
              obtain ⟨hlen, hf⟩ := zaa hf
              have hlen := z18 hlen
              obtain ⟨L2, q1, q2, q3, M2, hb1⟩ := M1.recd (hbL s1) rfl rfl hm1
              have hat : w1.heap[l]? = some (.loop (rc .ready)) := M1.own q3 (z2x _)
              have has' : vs.toArray.size = ps.size := by rw [z4h, hvs.len', hlen]
              refine ⟨fn, _, assign, body, by rw [hrc] at hat; exact run_yield hat has', ?_⟩
              refine roundIn_of_wpIn (F := FW none) trivial ?_
              show assign.wpIn (FW (some l)) 0 P _ _ _
              generalize htm : ((ps.zip vs.toArray).foldl (fun tmps (x : Tmp × Value) => tmps.setIfInBounds x.1 x.2) a.tmps) = tm
              have htl : tm.toList = ze1 a.tmps.toList ps.toList vs := by
               rw [← htm, ← zgd, ← Array.foldl_toList, Array.toList_zip]
              have F2 : RpL D1 (ρ ++ [L] ++ s1) tm.toList (setA t ps.toList args) := by
               rw [htl, z2m]
               rw [z2m] at hvs
               exact setA_S (F.mono hle _) hvs
              refine wpIn_mono (iha (some l) .rd (fun _ _ => True) hr' ro' _ _ _ D1 _ _ ([(l, .loop (rc .ready))] :: C1) { tmps := tm, defers := [] } w1 [] (fun _ _ _ => trivial) trivial (by intro h; cases h) trivial hf M2 F2 rfl) fun e a3 w3 hq => ?_
              cases e with
              | normal =>
                obtain ⟨ds3, D3, ρ3, m3, c3, t3, e3, n3, M3, F3, hk⟩ := hq.ex
                have M3' : SAt D3 ρ3 m3 c3 ([(l, .loop (rc .ready))] :: (dch ds3 ++ C1)) w3.heap := M3.perm (by simp [z21] <;> exact z4z)
                have hat3 : w3.heap[l]? = some (.loop (rc .ready)) := M3'.st.unmid.get (z2x _)
                refine ⟨w3.putObj l (.loop (rc .busy)), by rw [hrc] at hat3 ⊢; exact run_beginRound hat3 rfl, ?_⟩
                show body.wpIn (FW (some l)) 0 P _ _ _
                have M4 : SAt D3 ρ3 m3 c3 (dch ds3 ++ ([(l, .loop (rc .busy))] :: C1)) (w3.putObj l (.loop (rc .busy))).heap := (M3'.cput (.loop (rc .busy))).perm (by simp [z21] <;> exact z4z.symm)
                refine wpIn_mono (ihb (some l) .rd (fun _ _ => True) hr' ro' _ _ _ D3 _ _ ([(l, .loop (rc .busy))] :: C1) a3 (w3.putObj l (.loop (rc .busy))) ds3 (fun _ _ _ => trivial) trivial (by intro h; cases h) trivial hk M4 F3 e3) fun e a5 w5 hq5 => ?_
                have fin : ∀ {md T}, UpY md T (w3.putObj l (.loop (rc .busy))) ro' hr' D3 ρ3 m3 c3 ([(l, .loop (rc .busy))] :: C1) (fun _ m3 => match Ex.nrm, mg m3 m.length with
                 | .nrm, .x => KS (.u (.b true)) (ms m3 m.length .tk)
                 | _, _ => False) a5 w5 → ∃ v w', (Instr.endRound l none).run P w5 = .ok v w' ∧ ∃ v', Ending.returned v = Ending.returned v' ∧ zc5 ro' hr' D1 (ρ ++ [L] ++ s1) m1 c1 C1 KS v' w'.heap ∧ Same w1 w' := by
                 intro md T hu
                 obtain ⟨ds5, D5, ρ5, m5, c5, t5, e5, n5, M5, F5, hk5⟩ := hu.ex
                 have M5' : SAt D5 ρ5 m5 c5 ([(l, .loop (rc .busy))] :: (dch ds5 ++ C1)) w5.heap := M5.perm (by simp [z21] <;> exact z4z)
                 have hat5 : w5.heap[l]? = some (.loop (rc .busy)) := M5'.st.unmid.get (z2x _)
                 have nn := n3.trans n5
                 obtain ⟨s5, hs5⟩ := nn.pre
                 have hb5 : m.length < m5.length := by have := nn.len; rw [zb4] at this; omega
                 have hL5 : ρ5[m.length]? = some L := by rw [hs5, z2m]; exact hbL _
                 split at hk5
                 rotate_left
                 · exact hk5.elim
                 rename_i hx5
                 have M6 : SAt D5 ρ5 (ms m5 m.length .tk) (c5.set m.length [(l, .loop (rc .ready))]) C1 (w5.putObj l (.loop (rc .ready))).heap := by
                  have := (M5'.cput (.loop (rc .ready))).back hb5 hL5 rfl rfl
                  exact this.mono (.refl _) (this.st.sublist (by
                   simp only [z21]
                   exact (List.Sublist.refl _).append (z6w _ _)))
                 refine ⟨.bool true, w5.putObj l (.loop (rc .ready)), by rw [hrc] at hat5 ⊢; exact run_endRound none hat5, .bool true, rfl, ⟨D5, ρ5, _, _, .u (.b true), ⟨nn.le, nn.pre, fun b h1 h2 => ?_, fun b h1 h2 => ?_, ?_⟩, M6, .u (.bool true), hk5⟩, ?_⟩
                 · by_cases hb : m.length = b
                   · subst hb
                     rw [z3x (by rw [M5.lch]; exact hb5), q3]
                   · rw [z23 hb]
                     have := nn.keep b h1 (by rw [zb4]; exact h2)
                     rw [this, z23 hb]
                 · by_cases hb : m.length = b
                   · subst hb
                     rw [z00 hb5, hm1]
                   · rw [zbh hb]
                     have := nn.same b h1 (by rw [zb4]; exact h2)
                     rw [this, zbh hb]
                 · have := nn.len
                   rw [zb4] at this ⊢
                   exact this
                 · exact ((hq.sm.trans (Same.put _ _ _)).trans hu.sm).trans (Same.put _ _ _)
                cases e with
                | normal => exact fin hq5
                | exit i => obtain ⟨_, _, _, _, _, _, _, _, _, _, h⟩ := hq5.ex; exact h.elim
                | ret => obtain ⟨_, _, _, _, _, _, _, _, _, _, h⟩ := hq5.ex; exact h.elim
                | _ => exact hq5.elim
              | exit i => obtain ⟨_, _, _, _, _, _, _, _, _, _, h⟩ := hq.ex; exact h.elim
              | ret => obtain ⟨_, _, _, _, _, _, _, _, _, _, h⟩ := hq.ex; exact h.elim
              | _ => exact hq.elim
             have hvg := zcj F g
             rw [hg] at hvg
             generalize hevg : ev a.tmps.toList g = vg at hvg
             obtain ⟨xs, ys, rfl, ha1, ha2⟩ := hvg.f_inv
             have hyv : Rp D (ρ ++ [L]) (.func (.yield l) #[] #[]) (.y m.length) := .y (L := L) (by have := hbL []; rwa [z3a] at this)
             have hargs : RpL D (ρ ++ [L]) (xs ++ [Value.func (.yield l) #[] #[]] ++ ys) (as' ++ [.y m.length] ++ cs) := ((ha1.mono (.refl D) [L]).app (.cons hyv .nil)).app (ha2.mono (.refl D) [L])
             have hrun := body_S (fi := gi) (X := X') hself hX' (Y := .it m.length _) @hY' rfl ⟨.refl D, [], by simp⟩ hgf hgc hng.1 hYf M1 hargs
             let W1 : World := (w.alloc (.deferred (some []))).alloc (.loop (rc .ready))
             have hW1 : W1.heap = h2 := rfl
             have hevg' : a.eval g = .func (.func gi) xs.toArray ys.toArray := by rw [zau]; exact hevg
             refine ⟨l, [{ target := .collected w.heap.size, args := #[] }], W1, { target := .fn (.func gi) ys.toArray, args := xs.toArray ++ #[.func (.yield l) #[] #[]] }, W1, gi,
              (xs.toArray ++ #[.func (.yield l) #[] #[]]) ++ ys.toArray, W1, ?_, ?_, fun _ _ => trivial, ?_, fun hx => (by cases hx), ?_⟩
             · show (Instr.enterLoop fn a.tmps ps assign body none).run P w = _
               rw [run_enterLoop_outer]; subst hrc; rfl
             · simp only [resolve, hevg', Deferred.ofValue]
               simp [Act.eval]
             · show (callFunc gi _).run P W1 = _
               exact zde hrun.1 _ _
             · have hc := hrun.2 W1 hW1
               have ha : (xs ++ [Value.func (.yield l) #[] #[]] ++ ys).toArray = (xs.toArray ++ #[.func (.yield l) #[] #[]]) ++ ys.toArray := by apply Array.ext'; simp
               rw [ha] at hc
               refine (zil hc).mono ?_
               rintro e w3 ⟨v, rfl, hK, hS⟩
               have sW : Same w w3 := ((Same.alloc _ _).trans (Same.alloc _ _)).trans hS
               obtain ⟨D2, ρ2, m2, c2, x2, n2, M2, -, hY2⟩ := hK
               obtain ⟨hm2, hQ⟩ := z1g hY2
               obtain ⟨s2, rfl⟩ := n2.pre
               obtain ⟨L2, q1, q2, q3, M3, hb2⟩ := M2.recd (hbL s2) rfl rfl hm2
               have hat : w3.heap[l]? = some (.loop (rc .ready)) := M2.own q3 (z2x _)
               have hat' := hat
               rw [hrc] at hat'
               refine ⟨_, _, run_endLoop hat' (by simp), ?_⟩
               refine ⟨sW.trans (Same.put _ _ _), .refl _ _, w.heap.size :: ds, D2, _, _, _, t, by show [_] ++ a.defers = _; rw [hd]; rfl, ⟨n2.le, ⟨[L] ++ s2, by simp⟩, fun b h1 h2 => ?_, fun b h1 h2 => ?_, ?_⟩, (M3.cput _).cdrop, ?_, hQ⟩
               · have hb : m.length ≠ b := by omega
                 rw [z23 hb, n2.keep b h1 (by simp; omega), z2k (by rw [M.lch]; exact h2)]
               · have hb : m.length ≠ b := by omega
                 rw [zbh hb, n2.same b h1 (by simp; omega), zni h2]
               · rw [zb4]; omega
               · rw [z2m]; exact F.mono n2.le _
     · exact hh.elim
 | _ => intro r Y X hr ro Q t m D ρ chs C a w ds hX hY hrd xx hh M F hd; simp [vcC] at hh
theorem runS_S (hmix : P.follows .mixedOrders = true) (H : SH P) : ∀ n, zsm P (runS P H n)
 | 0 => by
   intro hX hY hYr xx hh
   exact hh.elim
 | n + 1 => by
   intro hX hY hYr xx hh M F hd
   exact vcC_S hmix (runS_S hmix H n) _ none _ _ _ _ _ _ _ _ _ _ _ _ _ [] hX hY (fun _ => rfl) xx hh M F hd
theorem frzX_S {own : Bool} {x y : V} {v : Value} (hs : frzX own m x = some (y, m')) (M : SAt D ρ m chs C h) (hv : Rp D ρ v x) : ∃ D' chs', Nx [] [] D ρ m chs D' ρ m' chs' ∧ SAt D' ρ m' chs' C h ∧ Rp D' ρ v y := by
 unfold frzX at hs
 split at hs
 · rename_i l
   cases own with
   | true => cases hs; exact ⟨D, chs, .refl, M, hv⟩
   | false =>
     simp only [cond_false] at hs
     split at hs
     · rename_i l' m1 h1
       cases hs
       obtain ⟨VS, rfl, hl⟩ := hv.t_inv
       obtain ⟨D2, c2, n2, M2, r2⟩ := zvx (ro := []) (hr := []) h1 M hl
       exact ⟨D2, c2, n2, M2, .t r2⟩
     · cases hs
 · cases own with
   | true => cases hs; exact ⟨D, chs, .refl, M, hv⟩
   | false => exact frzV_S (ro := []) (hr := []) hs M hv
theorem funSG (hmix : P.follows .mixedOrders = true) {H : SH P} {n : Nat} {f : FuncId} {fn : Func} {gc : Bool} (hf : P.funcs[f]? = some fn) (hn : (fn.name == "runtime.NumGoroutine") = false) {c : Code} (hc : fn.body = some c) {m : Mem} {args : List V} {Q : V → Mem → Prop}
 (hh : runS P H n .out f [] [] c (zx9 P gc fn (endS H.own m.length Q)) (zd2 P gc fn args) m) : PRun P f m args Q := by
 intro D ρ chs C h vs M ha
 · refine (body_S (fi := f) (runS_S hmix H n) (X := fun _ _ => True) (fun _ _ _ => trivial) (Y := .out) trivial rfl trivial hf hc hn hh M ha).mono ?_
   rintro v h' ⟨D1, ρ1, m1, c1, x, n1, M1, hv, hq⟩
   obtain ⟨s, rfl⟩ := n1.pre
   unfold endS at hq
   split at hq
   · exact hq.elim
   · rename_i x1 m2 hfz
     obtain ⟨D2, c2, n2, M2, hv2⟩ := frzX_S hfz M1 hv
     generalize hix : clo m2 1000 (zae x1 ++ (m2.take m.length).flatMap za5) (z2b m.length) = ix at hq
     obtain ⟨hc2, hq⟩ := zaa hq
     simp only [z17] at hc2
     have q1 := zb0 hc2.1.1
     have q2 := zb0 hc2.1.2
     have q3 := zd4 hc2.2
     have hnd : ix.Nodup := hix ▸ zfj _ _ _ List.nodup_range
     have hpre : ∃ tl, ix = z2b m.length ++ tl := hix ▸ zpd _ _ _
     obtain ⟨tl, rfl⟩ := hpre
     obtain ⟨c', cs, Mk, gk, Ms⟩ := M2.sub hnd q3 fun b hb c hc => q2 c (z5u.2 ⟨b, hb, hc⟩)
     have hρ : (z2b m.length ++ tl).map (fun b => ((ρ ++ s)[b]?).getD ⟨0, none, 0, 0, none⟩) = ρ ++ tl.map (fun b => ((ρ ++ s)[b]?).getD ⟨0, none, 0, 0, none⟩) := by
      rw [z28]
      congr 1
      apply z4m (by simp [M.len])
      intro i h1 h2
      simp only [z4p, z58]
      rw [z2k h2, z2c h2]; rfl
     rw [hρ] at Ms
     have hv3 := (ren_all (D := D2) (ρ := ρ ++ s) (f := fun b => zh9 (z2b m.length ++ tl) b 0) (ρ' := (z2b m.length ++ tl).map (fun b => ((ρ ++ s)[b]?).getD ⟨0, none, 0, 0, none⟩))).1 hv2 fun b hb L hL => by
      obtain ⟨k, h4, h5⟩ := zfu (k := 0) (q1 b hb)
      rw [h4, z2l, z2i, h5, z3h, hL]; rfl
     rw [hρ] at hv3
     refine ⟨D2, _, cs, _, _, n1.le.trans n2.le, Ms.mono (.refl _) (C' := C) ?_, hv3, hq⟩
     have S := Ms.st
     exact (S.perm (C' := c' ++ (cs ++ C)) (by simp only [z21]; exact z3g _ _ _)).drops
theorem funS (hmix : P.follows .mixedOrders = true) {H : SH P} {n : Nat} {f : FuncId} {fn : Func} (hf : P.funcs[f]? = some fn) (hn : (fn.name == "runtime.NumGoroutine") = false) {m : Mem} {args : List V} {Q : V → Mem → Prop} (hh : zp8 P H n f fn m args Q) : PRun P f m args Q := by
 unfold zp8 at hh
 split at hh
 · exact hh.elim
 · rename_i c hc
   exact funSG hmix hf hn hc hh
theorem zak (hmix : P.follows .mixedOrders = true) {H : SH P} {n : Nat} {f : FuncId} {fn : Func} (hf : P.funcs[f]? = some fn) (hn : (fn.name == "runtime.NumGoroutine") = false) {m : Mem} {args : List V} {Q : V → Mem → Prop} {V : Prop} (hV : V = zp8 P H n f fn m args Q) (hh : V) : PRun P f m args Q :=
 funS hmix hf hn (hV ▸ hh)
end
structure Suf {α : Type} (L : List α) (x : Int) (l : List α) : Prop where
 k : ∃ k : Nat, x = k ∧ L.drop k = l
 b : L.length ≤ 1000000000000
section
variable {α β : Type} {L l : List α} {a : α} {x : Int} {e : α → β}
theorem Suf.zero (h : L.length ≤ 1000000000000) : Suf L 0 L := ⟨⟨0, rfl, rfl⟩, h⟩
theorem Suf.lt (s : Suf L x (a :: l)) : 0 ≤ x ∧ x < L.length := by
 obtain ⟨⟨k, rfl, hk⟩, -⟩ := s
 have : k < L.length := by
  apply Decidable.byContradiction
  intro hc
  rw [z4n (by omega)] at hk
  cases hk
 omega
theorem Suf.nlt (s : Suf L x []) : ¬ x < L.length := by
 obtain ⟨⟨k, rfl, hk⟩, -⟩ := s
 have := List.drop_eq_nil_iff.1 hk
 omega
theorem Suf.wr (s : Suf L x (a :: l)) : z13 .i64 (x + 1) = x + 1 := by
 have := s.lt
 have := s.b
 exact w64 (by omega) (by omega)
theorem Suf.succ (s : Suf L x (a :: l)) : Suf L (x + 1) l := by
 obtain ⟨⟨k, rfl, hk⟩, hb⟩ := s
 refine ⟨⟨k + 1, rfl, ?_⟩, hb⟩
 rw [show k + 1 = k + 1 from rfl, ← z4x, hk]
 rfl
theorem Suf.get (s : Suf L x (a :: l)) : L[x.toNat]? = some a := by
 obtain ⟨⟨k, rfl, hk⟩, -⟩ := s
 have := congrArg List.head? hk
 simpa [List.head?_drop] using this
theorem Suf.d1 (s : Suf L x (a :: l)) : decide (x < ((L.map e).length : Int)) = true := by
 rw [z2d]; exact decide_eq_true s.lt.2
theorem Suf.d0 (s : Suf L x []) : decide (x < ((L.map e).length : Int)) = false := by
 rw [z2d]; exact decide_eq_false s.nlt
theorem zav {γ : Type} {R : List γ} {r : γ} {K : γ → Prop} (h0 : 0 ≤ x) (h : R[x.toNat]? = some r) : elL R x K = K r := by
 obtain ⟨k, rfl⟩ := z4e h0
 simp only [z27] at h
 show (match R[k]? with | some r => K r | none => False) = K r
 rw [h]
theorem Suf.el (s : Suf L x (a :: l)) {K : β → Prop} : elL (L.map e) x K = K (e a) :=
 zav s.lt.1 (by rw [z2i, s.get]; rfl)
def SufI (L : List α) (P : List α → Prop) (x : Int) : Prop := ∃ l, Suf L x l ∧ P l
def zmv (L : List α) (x : Int) : Nat := (L.length - x).toNat
variable {P : List α → Prop}
theorem SufI.zero (h : L.length ≤ 1000000000000) (h0 : P L) : SufI L P 0 := ⟨L, .zero h, h0⟩
theorem Suf.me (s : Suf L x (a :: l)) : zmv L (x + 1) < zmv L x := by
 have := s.lt
 unfold zmv
 omega
theorem Suf.step (s : Suf L x (a :: l)) (h : P l) : SufI L P (z13 .i64 (x + 1)) ∧ zmv L (z13 .i64 (x + 1)) < zmv L x := by
 rw [s.wr]
 exact ⟨⟨l, s.succ, h⟩, s.me⟩
end
section
variable {α β : Type} {L l t : List α} {a : α} {x : Int} {e : α → β}
end
section
variable {r : List U} {u : U} {K : Int → Prop} {n : Int} {s j : Nat}
theorem ug0 : ug (u :: r) 0 = some u := rfl
theorem ugs : ug (u :: r) (j + 1) = ug r j := rfl
theorem zcs : dI .i64 (some (.n n)) K = K n := rfl
theorem dL_l {c : List (List U)} {K : List (List U) → Prop} : dL s (some (.l s c)) K = K c := by
 show cond (z14 s s) (K c) False = K c
 rw [show z14 s s = true from Nat.beq_refl s]; rfl
end
section
variable {m : Mem} {n n' : Int} {b : Bool} {s z z' E : Nat} {r r' : List (List U)} {x : ByteArray} {p : Option (List U)}
theorem zax {F : Int → Prop} : post [.I] [] F (.i n) m = F n := rfl
theorem zci {F : Bool → Prop} : post [.B] [] F (.u (.b b)) m = F b := rfl
theorem zoo {F : Int → Int → Prop} : post [.one (.i .u64), .one (.i .u64)] [] F (.t [.u (.i .u64 n), .u (.i .u64 n')]) m = F n n' := rfl
theorem zbk {F : Int → Int → Prop} : post [.I, .I] [] F (.t [.i n, .i n']) m = F n n' := rfl
theorem znd {F : List (List U) → Prop} : post [.L z] [] F (.l z r) m = F r := by
 simp only [post, resX, pkR, pkV, pk1, Nat.beq_refl, cond_true]; rfl
end
theorem PRun.mono {P : Program} {g : FuncId} {m : Mem} {args : List V} {Q Q' : V → Mem → Prop} (h : PRun P g m args Q) (k : ∀ x m', Q x m' → Q' x m') : PRun P g m args Q' :=
 fun D ρ chs C hp vs M F => (h D ρ chs C hp vs M F).mono fun _ _ ⟨D', ρ', chs', x, m', a, b, c, d⟩ => ⟨D', ρ', chs', x, m', a, b, c, k _ _ d⟩
section
variable {P : Program} {D D' : Fz} {ρ : List Loc} {m : Mem} {chs C : List zab} {h : zac}
theorem RpC.data {D2 : Fz} {j : Nat} {L : Loc} {u : U} (hL : ρ[j]? = some L) (hr : Rd D2 (.slice L.a L.n L.c) u) (le : Le D D2) : ∀ {arr : List Value} {l : List V} {i : Nat}, RpC D ρ arr l → zc7 l i = .w j → RpC D2 ρ arr (zjs l i (.u u))
 | _, [], i, h, hi => by simp [zc7] at hi
 | _, x :: xs, 0, h, hi => by
   simp only [zc7] at hi
   subst hi
   cases h with
   | cons a _ b =>
     cases a with
     | w hL' =>
       rw [hL] at hL'
       cases hL'
       have := b.mono le (s := [])
       rw [z3a] at this
       exact .cons (.u hr) (fun _ _ _ e => by cases e) this
 | _, x :: xs, i + 1, h, hi => by
   simp only [zc7] at hi
   cases h with
   | cons a c b =>
     have := a.mono le (s := [])
     rw [z3a] at this
     exact .cons this c (b.data hL hr le hi)
   | n e b => exact .n e (b.data hL hr le hi)
def frzAt (m : Mem) (b i : Nat) : Mem :=
 match mg m b with
 | .c l => match zc7 l i with
   | .w j => match mg m j with
     | .w _ sz rows => ms (ms m j .x) b (.c (zjs l i (.u (.l sz rows))))
     | _ => m
   | _ => m
 | _ => m
theorem SAt.frzAt (M : SAt D ρ m chs C h) (b i : Nat) : ∃ D' chs', Le D D' ∧ SAt D' ρ (frzAt m b i) chs' C h := by
 have self : ∃ D' chs', Le D D' ∧ SAt D' ρ m chs' C h := ⟨D, chs, .refl D, M⟩
 unfold YtalglagdgabafaaGreat.frzAt
 split
 · rename_i l hb
   split
   · rename_i j hj
     split
     · rename_i E sz rows hr
       obtain ⟨L, ch, g1, g2, g3⟩ := M.get (b := j) (by rw [hr]; simp)
       rw [hr] at g3
       cases g3 with
       | w o hn =>
         obtain ⟨D2, le, S2, hR⟩ := o.freeze (M.front g2)
         rw [← hn] at hR
         have M2 : SAt D2 ρ (ms m j .x) (chs.set j []) C h := M.put g1 g2 S2.nil le .x
         have hne : b ≠ j := fun e => by rw [e, hr] at hb; cases hb
         obtain ⟨Lb, cb, k1, k2, k3⟩ := M2.get (b := b) (by rw [zbh (Ne.symm hne), hb]; simp)
         rw [zbh (Ne.symm hne), hb] at k3
         obtain ⟨Lb', cb', q1, q2, q3⟩ := M.get (b := b) (by rw [hb]; simp)
         rw [hb] at q3
         rw [k1] at q1
         cases q1
         cases k3 with
         | c hc =>
           have h3 : RpC D2 ρ _ (zjs l i (.u (.l sz rows))) := hc.data (D2 := D2) g1 hR (.refl D2) hj
           have S3 : St D2 (_ :: (chs.set j [] ++ C).eraseIdx b) h := M2.front k2
           exact ⟨D2, _, le, M2.put k1 k2 S3 (.refl D2) (.c h3)⟩
     · exact self
   · exact self
 · exact self
theorem PRun.frz {g : FuncId} {args : List V} {Q : V → Mem → Prop} {m0 : Mem} (b i : Nat) (hh : PRun P g m0 args fun x m => Q x (frzAt m b i)) : PRun P g m0 args Q := by
 intro D ρ chs C h vs M F
 refine (hh D ρ chs C h vs M F).mono ?_
 rintro v h' ⟨D', s, chs', x, m', le, M', hv, hq⟩
 obtain ⟨D2, chs2, le2, M2⟩ := M'.frzAt b i
 have := hv.mono le2 (s := [])
 rw [z3a] at this
 exact ⟨D2, s, chs2, x, _, le.trans le2, M2, this, hq⟩
def noRef (n : Nat) (x : V) (m : Mem) : Bool := (zae x).all (fun b => z19 (b + 1) n) && m.all fun a => (za5 a).all fun b => z19 (b + 1) n
theorem renA_id (a : AB) : zob id a = a := by
 cases a <;> simp only [zob, zei]
theorem SAt.trim {ρ' : List Loc} {m1 : Mem} {chs' : List zab} {L : Loc} {v : Value} {x : V} (M : SAt D (ρ' ++ [L]) (m1 ++ [.x]) chs' C h) (hv : Rp D (ρ' ++ [L]) v x) (hr : noRef m1.length x m1 = true) : ∃ c1, SAt D ρ' m1 c1 C h ∧ Rp D ρ' v x := by
 unfold noRef at hr
 simp only [z17, z29] at hr
 have hl : ρ'.length = m1.length := by have := M.len; simp at this; exact this
 have hc : chs'.length = m1.length + 1 := by have := M.lch; simpa using this
 have sub : ∀ {l : List Nat}, (∀ b ∈ l, z19 (b + 1) m1.length = true) → ∀ b ∈ l, ∀ K : Loc, (ρ' ++ [L])[b]? = some K → ρ'[id b]? = some K := fun hb b hm K hK => by
  have := z2w (hb b hm)
  rwa [z2k (by omega)] at hK
 obtain ⟨c1, c, rfl⟩ : ∃ c1 c, chs' = c1 ++ [c] := ⟨chs'.dropLast, chs'.getLast (by intro e; rw [e] at hc; simp at hc), (z6k _).symm⟩
 have hc1 : c1.length = m1.length := by simpa using hc
 have hlast : c = [] := by
  have := M.ent m1.length L .x c (by rw [z2t (by omega), hl]; simp) (by simp) (by rw [z2t (by omega), hc1]; simp)
  cases this
  rfl
 subst hlast
 refine ⟨c1, ⟨hl, hc1, fun i K ab ch h1 h2 h3 => ?_, M.st.perm (by simp)⟩, ?_⟩
 · have hi : i < m1.length := (z2a.1 h2).1
   have he := M.ent i K ab ch (by rw [z2k (by omega)]; exact h1) (by rw [z2k hi]; exact h2) (by rw [z2k (by omega)]; exact h3)
   have := he.ren (ρ' := ρ') (f := id) (sub (hr.2 ab (z2y h2)))
   rwa [renA_id] at this
 · have := (ren_all (D := D) (ρ := ρ' ++ [L]) (ρ' := ρ') (f := id)).1 hv (sub hr.1)
   rwa [ztc] at this
def zyx (n : Nat) (x : V) (m : Mem) : Mem := cond (z19 (n + 1) m.length && (match m.getLast? with | some .x => true | _ => false) && noRef m.dropLast.length x m.dropLast) m.dropLast m
theorem PRun.trim {g : FuncId} {args : List V} {Q : V → Mem → Prop} {m0 : Mem} (hh : PRun P g m0 args fun x m => Q x (zyx m0.length x m)) : PRun P g m0 args Q := by
 intro D ρ chs C h vs M F
 refine (hh D ρ chs C h vs M F).mono ?_
 rintro v h' ⟨D', s, chs', x, m', le, M', hv, hq⟩
 unfold zyx at hq
 cases hc : (z19 (m0.length + 1) m'.length && (match m'.getLast? with | some .x => true | _ => false) && noRef m'.dropLast.length x m'.dropLast) with
 | false => rw [hc] at hq; exact ⟨D', s, chs', x, m', le, M', hv, hq⟩
 | true =>
   rw [hc] at hq
   simp only [z17] at hc
   obtain ⟨⟨h1, h2⟩, h3⟩ := hc
   have h1 := z2w h1
   have hne : m' ≠ [] := fun e => by rw [e] at h1; simp at h1
   have hl : m'.getLast? = some .x := by
    split at h2
    · assumption
    · cases h2
   have hm : m' = m'.dropLast ++ [.x] := by
    have := z6k hne
    rw [List.getLast?_eq_some_getLast hne] at hl
    cases hl2 : m'.getLast hne <;> rw [hl2] at hl <;> cases hl
    rw [hl2] at this
    exact this.symm
   have hlen := M'.len
   have hρ := M.len
   have hs : s ≠ [] := fun e => by rw [e, z3a] at hlen; omega
   have hs2 : ρ ++ s = (ρ ++ s.dropLast) ++ [s.getLast hs] := by rw [z2m, z6k]
   rw [hm, hs2] at M'
   rw [hs2] at hv
   obtain ⟨c1, M2, hv2⟩ := M'.trim hv h3
   exact ⟨D', s.dropLast, c1, x, _, le, M2, hv2, hq⟩
end
structure K4 where
 a : Int
 b : Int
 c : Int
 d : Int
deriving DecidableEq
def K4.lt (x y : K4) : Prop := x.a < y.a ∨ (x.a = y.a ∧ (x.b < y.b ∨ (x.b = y.b ∧ (x.c < y.c ∨ (x.c = y.c ∧ x.d < y.d)))))
instance (x y : K4) : Decidable (x.lt y) := by unfold K4.lt; infer_instance
theorem K4.ext' {x y : K4} (h1 : x.a = y.a) (h2 : x.b = y.b) (h3 : x.c = y.c) (h4 : x.d = y.d) : x = y := by
 cases x; cases y; simp_all
theorem K4.irr (x : K4) : ¬ x.lt x := by unfold K4.lt; omega
theorem K4.lt.trans {x y z : K4} (h : x.lt y) (k : y.lt z) : x.lt z := by unfold K4.lt at *; omega
theorem K4.tri (x y : K4) : x.lt y ∨ x = y ∨ y.lt x := by
 by_cases h : x = y
 · exact .inr (.inl h)
 · have : ¬ (x.a = y.a ∧ x.b = y.b ∧ x.c = y.c ∧ x.d = y.d) := fun ⟨h1, h2, h3, h4⟩ => h (K4.ext' h1 h2 h3 h4)
   unfold K4.lt
   omega
theorem K4.asym {x y : K4} (h : x.lt y) : ¬ y.lt x := fun k => K4.irr x (h.trans k)
abbrev Tb := List (K4 × Int)
def Srt (l : Tb) : Prop := l.Pairwise fun x y => x.1.lt y.1
def zba (k : K4) : Tb → Nat
 | [] => 0
 | r :: l => if r.1.lt k then zba k l + 1 else 0
def zaq (k : K4) : Tb → Option Int
 | [] => none
 | r :: l => if r.1 = k then some r.2 else zaq k l
def zag (k : K4) (l : Tb) : Int := (zaq k l).getD 0
def zeo (k : K4) (v : Int) : Tb → Tb
 | [] => [(k, v)]
 | r :: l => if r.1.lt k then r :: zeo k v l else if r.1 = k then (k, v) :: l else (k, v) :: r :: l
def zm0 (k : K4) : Tb → Tb
 | [] => []
 | r :: l => if r.1 = k then l else r :: zm0 k l
def zx6 : Tb → Int
 | [] => 0
 | r :: l => r.2 + zx6 l
theorem Srt.tail {r : K4 × Int} {l : Tb} (h : Srt (r :: l)) : Srt l := (z3l.1 h).2
theorem Srt.head {r : K4 × Int} {l : Tb} (h : Srt (r :: l)) : ∀ s ∈ l, r.1.lt s.1 := (z3l.1 h).1
theorem zjv (k : K4) : ∀ l : Tb, zba k l ≤ l.length
 | [] => z2r _
 | r :: l => by
   simp only [zba]
   split
   · have := zjv k l; simp only [z2o]; omega
   · simp
theorem zs0 {k : K4} : ∀ {l : Tb} {i : Nat} {r : K4 × Int}, i < zba k l → l[i]? = some r → r.1.lt k
 | [], i, r, h, hr => by simp at hr
 | s :: l, i, r, h, hr => by
   simp only [zba] at h
   split at h
   · rename_i hs
     cases i with
     | zero => simp at hr; subst hr; exact hs
     | succ i => exact zs0 (l := l) (i := i) (by omega) (by simpa using hr)
   · omega
theorem zs1 {k : K4} : ∀ {l : Tb} {i : Nat} {r : K4 × Int}, Srt l → zba k l ≤ i → l[i]? = some r → ¬ r.1.lt k
 | [], i, r, _, h, hr => by simp at hr
 | s :: l, i, r, hs, h, hr => by
   simp only [zba] at h
   split at h
   · cases i with
     | zero => omega
     | succ i => exact zs1 (l := l) (i := i) hs.tail (by omega) (by simpa using hr)
   · rename_i hk
     cases i with
     | zero => simp at hr; subst hr; exact hk
     | succ i =>
       have hm : r ∈ l := z2y (by simpa using hr : l[i]? = some r)
       exact fun h2 => hk ((hs.head r hm).trans h2)
theorem tpos_eq {k : K4} {l : Tb} {n : Nat} (hs : Srt l) (hn : n ≤ l.length) (h1 : ∀ (i : Nat) (r : K4 × Int), i < n → l[i]? = some r → r.1.lt k) (h2 : ∀ (i : Nat) (r : K4 × Int), n ≤ i → l[i]? = some r → ¬ r.1.lt k) : n = zba k l := by
 have hle := zjv k l
 rcases Nat.lt_trichotomy n (zba k l) with h | h | h
 · have hlt : n < l.length := by omega
   exact absurd (zs0 h (z2c hlt)) (h2 n _ (z2r _) (z2c hlt))
 · exact h
 · have hlt : zba k l < l.length := by omega
   exact absurd (h1 _ _ h (z2c hlt)) (zs1 hs (z2r _) (z2c hlt))
theorem zdq {k : K4} : ∀ {l : Tb}, (∀ r ∈ l, k.lt r.1) → zaq k l = none
 | [], _ => rfl
 | r :: l, h => by
   simp only [zaq]
   rw [if_neg fun e => K4.irr k (by have := h r z2p; rwa [e] at this), zdq fun s hs => h s (z2j _ hs)]
theorem zs3 {k : K4} : ∀ {l : Tb}, Srt l → zaq k l = (match l[zba k l]? with
 | some r => if r.1 = k then some r.2 else none
 | none => none)
 | [], _ => rfl
 | r :: l, hs => by
   simp only [zaq, zba]
   by_cases h : r.1.lt k
   · rw [if_pos h, if_neg fun e => K4.irr k (by rwa [e] at h), z4t]
     exact zs3 hs.tail
   · rw [if_neg h, List.getElem?_cons_zero]
     dsimp only
     by_cases e : r.1 = k
     · rw [if_pos e, if_pos e]
     · rw [if_neg e, if_neg e]
       rcases K4.tri r.1 k with h1 | h1 | h1
       · exact absurd h1 h
       · exact absurd h1 e
       · exact zdq fun s hs' => h1.trans (hs.head s hs')
theorem zsz {k : K4} {v : Int} : ∀ {l : Tb}, Srt l → zeo k v l = l.take (zba k l) ++ (k, v) :: l.drop (zba k l + bif (zaq k l).isSome then 1 else 0)
 | [], _ => rfl
 | r :: l, hs => by
   simp only [zeo, zba, zaq]
   by_cases h : r.1.lt k
   · rw [if_pos h, if_pos h, if_neg fun e => K4.irr k (by rwa [e] at h), List.take_succ_cons, zsz hs.tail]
     simp only [z3r]
     rw [Nat.add_right_comm, z59]
   · rw [if_neg h, if_neg h]
     by_cases e : r.1 = k
     · rw [if_pos e, if_pos e]; simp
     · rw [if_neg e, if_neg e]
       have : zaq k l = none := by
        rcases K4.tri r.1 k with h1 | h1 | h1
        · exact absurd h1 h
        · exact absurd h1 e
        · exact zdq fun s hs' => h1.trans (hs.head s hs')
       rw [this]; simp
theorem zjb {k : K4} {v : Int} : ∀ {l : Tb} {r : K4 × Int}, r ∈ zeo k v l → r = (k, v) ∨ r ∈ l
 | [], r, h => by simpa [zeo] using h
 | s :: l, r, h => by
   simp only [zeo] at h
   split at h
   · rcases z2e.1 h with e | e
     · exact .inr (by simp [e])
     · rcases zjb e with e2 | e2
       · exact .inl e2
       · exact .inr (z2j _ e2)
   · split at h
     · rcases z2e.1 h with e | e
       · exact .inl e
       · exact .inr (z2j _ e)
     · rcases z2e.1 h with e | e
       · exact .inl e
       · exact .inr e
theorem zeb {k : K4} {v : Int} : ∀ {l : Tb}, Srt l → Srt (zeo k v l)
 | [], _ => List.pairwise_singleton _ _
 | r :: l, hs => by
   simp only [zeo]
   by_cases h : r.1.lt k
   · rw [if_pos h]
     refine z3l.2 ⟨fun s hs' => ?_, zeb hs.tail⟩
     rcases zjb hs' with e | e
     · rw [e]; exact h
     · exact hs.head s e
   · rw [if_neg h]
     by_cases e : r.1 = k
     · rw [if_pos e]
       refine z3l.2 ⟨fun s hs' => ?_, hs.tail⟩
       have := hs.head s hs'
       rwa [e] at this
     · rw [if_neg e]
       have hk : k.lt r.1 := by
        rcases K4.tri r.1 k with h1 | h1 | h1
        · exact absurd h1 h
        · exact absurd h1 e
        · exact h1
       refine z3l.2 ⟨fun s hs' => ?_, hs⟩
       rcases z2e.1 hs' with e2 | e2
       · rw [e2]; exact hk
       · exact hk.trans (hs.head s e2)
theorem zfs {k : K4} {v : Int} (j : K4) : ∀ {l : Tb}, Srt l → zaq j (zeo k v l) = if j = k then some v else zaq j l
 | [], _ => by
   simp only [zeo, zaq]
   by_cases e : k = j
   · rw [if_pos e, if_pos e.symm]
   · rw [if_neg e, if_neg fun h => e h.symm]
 | r :: l, hs => by
   simp only [zeo]
   by_cases h : r.1.lt k
   · rw [if_pos h]
     simp only [zaq]
     by_cases e : r.1 = j
     · rw [if_pos e, if_pos e, if_neg fun e2 => K4.irr k (by rwa [e, e2] at h)]
     · rw [if_neg e, if_neg e]
       exact zfs j hs.tail
   · rw [if_neg h]
     by_cases e : r.1 = k
     · rw [if_pos e]
       simp only [zaq]
       by_cases e2 : k = j
       · rw [if_pos e2, if_pos e2.symm]
       · rw [if_neg e2, if_neg (fun h => e2 h.symm), if_neg (fun h => e2 (by rw [← e, h]))]
     · rw [if_neg e]
       simp only [zaq]
       by_cases e2 : k = j
       · rw [if_pos e2, if_pos e2.symm]
       · rw [if_neg e2, if_neg (show ¬ j = k from fun h => e2 h.symm)]
theorem zur {k : K4} {v : Int} : ∀ {l : Tb}, Srt l → zx6 (zeo k v l) = zx6 l + v - zag k l
 | [], _ => by simp [zeo, zx6, zag, zaq]
 | r :: l, hs => by
   simp only [zeo]
   by_cases h : r.1.lt k
   · have e : ¬ r.1 = k := fun e => K4.irr k (by rwa [e] at h)
     rw [if_pos h]
     simp only [zx6, zag, zaq, if_neg e]
     rw [zur hs.tail]
     simp only [zag]
     omega
   · rw [if_neg h]
     by_cases e : r.1 = k
     · rw [if_pos e]
       simp only [zx6, zag, zaq, if_pos e, z3b]
       omega
     · rw [if_neg e]
       have : zaq k l = none := by
        rcases K4.tri r.1 k with h1 | h1 | h1
        · exact absurd h1 h
        · exact absurd h1 e
        · exact zdq fun s hs' => h1.trans (hs.head s hs')
       simp only [zx6, zag, zaq, if_neg e, this, Option.getD_none]
       omega
theorem zn1 {k : K4} : ∀ {l : Tb} {r : K4 × Int}, r ∈ zm0 k l → r ∈ l
 | [], r, h => by simp [zm0] at h
 | s :: l, r, h => by
   simp only [zm0] at h
   split at h
   · exact z2j _ h
   · rcases z2e.1 h with e | e
     · simp [e]
     · exact z2j _ (zn1 e)
theorem zuu {k : K4} : ∀ {l : Tb}, Srt l → Srt (zm0 k l)
 | [], _ => .nil
 | r :: l, hs => by
   simp only [zm0]
   split
   · exact hs.tail
   · exact z3l.2 ⟨fun s hs' => hs.head s (zn1 hs'), zuu hs.tail⟩
theorem zjx {k : K4} {l : Tb} (h : ∀ r ∈ l, r.1 ≠ k) : zaq k l = none := by
 induction l with
 | nil => rfl
 | cons r l ih =>
   simp only [zaq]
   rw [if_neg (h r z2p)]
   exact ih fun s hs => h s (z2j _ hs)
theorem zn3 {k : K4} (j : K4) : ∀ {l : Tb}, Srt l → zaq j (zm0 k l) = if j = k then none else zaq j l
 | [], _ => by simp [zm0, zaq]
 | r :: l, hs => by
   simp only [zm0]
   by_cases e : r.1 = k
   · rw [if_pos e]
     by_cases e2 : j = k
     · rw [if_pos e2]
       exact zjx fun s hs' e3 => by have := hs.head s hs'; rw [e, e3, e2] at this; exact K4.irr _ this
     · rw [if_neg e2]
       simp only [zaq]
       rw [if_neg fun h => e2 (by rw [← h, e])]
   · rw [if_neg e]
     simp only [zaq]
     by_cases e2 : r.1 = j
     · rw [if_pos e2, if_pos e2, if_neg fun h => e (by rw [e2, h])]
     · rw [if_neg e2, if_neg e2]
       exact zn3 j hs.tail
theorem zs4 {k : K4} : ∀ {l : Tb}, Srt l → zm0 k l = bif (zaq k l).isSome then l.take (zba k l) ++ l.drop (zba k l + 1) else l
 | [], _ => rfl
 | r :: l, hs => by
   simp only [zm0, zba, zaq]
   by_cases e : r.1 = k
   · rw [if_pos e, if_pos e, if_neg fun h => K4.irr k (by rwa [e] at h)]
     simp
   · rw [if_neg e, if_neg e]
     by_cases h : r.1.lt k
     · rw [if_pos h, zs4 hs.tail]
       cases (zaq k l).isSome <;> simp
     · have : zaq k l = none := by
        rcases K4.tri r.1 k with h1 | h1 | h1
        · exact absurd h1 h
        · exact absurd h1 e
        · exact zdq fun s hs' => h1.trans (hs.head s hs')
       rw [if_neg h, zs4 hs.tail, this]
       simp
theorem zdd {k : K4} {v : Int} : ∀ {l : Tb}, zaq k l = some v → (k, v) ∈ l
 | [], h => by cases h
 | r :: l, h => by
   simp only [zaq] at h
   split at h
   · rename_i e
     cases h
     subst e
     exact z2p
   · exact z2j _ (zdd h)
theorem zed {k : K4} {v : Int} : ∀ {l : Tb}, Srt l → (k, v) ∈ l → zaq k l = some v
 | [], _, h => by cases h
 | r :: l, hs, h => by
   simp only [zaq]
   rcases z2e.1 h with e | e
   · subst e; rw [if_pos rfl]
   · rw [if_neg fun e2 => K4.irr k (by have := hs.head _ e; rwa [e2] at this)]
     exact zed hs.tail e
section
variable {P : Program} {D D' : Fz} {ρ : List Loc} {m : Mem} {chs C : List zab} {h : zac}
def packF (S : Mem → Prop) (D : Fz) (b : Nat) (ch : zab) : Prop :=
 ∃ (m : Mem) (ρ : List Loc) (chs : List zab), S m ∧ ρ.length = m.length ∧ chs.length = m.length ∧ (∃ L, ρ[0]? = some L ∧ L.b = b) ∧ chs.flatten = ch ∧
   ∀ (i : Nat) (L : Loc) (ab : AB) (c : zab), ρ[i]? = some L → m[i]? = some ab → chs[i]? = some c → Ent D ρ L ab c
def Ob.of (S : Mem → Prop) : Ob where
 f := packF S
 mono := by
  rintro D D' b c ⟨m, ρ, chs, h1, h2, h3, h4, h5, h6⟩ l
  exact ⟨m, ρ, chs, h1, h2, h3, h4, h5, fun i L ab c q1 q2 q3 => by have := (h6 i L ab c q1 q2 q3).mono l (s := []); rwa [z3a] at this⟩
theorem zu1 {ρ ρ' : List Loc} {vs : List Value} {args : List V} (h : RpL D ρ vs args) (hr : zam args = []) : RpL D ρ' vs args := by
 have := (ren_all (D := D) (ρ := ρ) (ρ' := ρ') (f := id)).2.1 h fun b hb => by rw [hr] at hb; cases hb
 rwa [zei] at this
theorem rp_data {ρ ρ' : List Loc} {v : Value} {x : V} (h : Rp D ρ v x) (hr : zae x = []) : Rp D ρ' v x := by
 have := (ren_all (D := D) (ρ := ρ) (ρ' := ρ') (f := id)).1 h fun b hb => by rw [hr] at hb; cases hb
 rwa [ztc] at this
def Nrm (m m2 : Mem) : Prop := ∀ (D : Fz) (ρ : List Loc) (chs : List zab), ρ.length = m.length → chs.length = m.length →
 (∀ (i : Nat) (L : Loc) (ab : AB) (c : zab), ρ[i]? = some L → m[i]? = some ab → chs[i]? = some c → Ent D ρ L ab c) →
 ∃ (ρ2 : List Loc) (chs2 : List zab), ρ2.length = m2.length ∧ chs2.length = m2.length ∧ (∀ L, ρ[0]? = some L → ρ2[0]? = some L) ∧ chs.flatten.Perm chs2.flatten ∧
   ∀ (i : Nat) (L : Loc) (ab : AB) (c : zab), ρ2[i]? = some L → m2[i]? = some ab → chs2[i]? = some c → Ent D ρ2 L ab c
theorem Nrm.refl (m : Mem) : Nrm m m := fun D ρ chs h1 h2 h3 => ⟨ρ, chs, h1, h2, fun L h => h, .refl _, h3⟩
abbrev f4 (b : Nat) : Nat := if b = 3 then 1 else b
theorem Nrm.four {l : List V} {A B : AB} (hl : ∀ b ∈ za5 (.c l), b ≠ 1) (hA : ∀ b ∈ za5 A, b ≠ 1) (hB : ∀ b ∈ za5 B, b ≠ 1) : Nrm [.c l, .x, A, B] [zob f4 (.c l), zob f4 B, zob f4 A] := by
 intro D ρ chs h1 h2 h3
 obtain ⟨r0, r1, r2, r3, rfl⟩ : ∃ r0 r1 r2 r3, ρ = [r0, r1, r2, r3] := by
  match ρ, h1 with
  | [a, b, c, d], _ => exact ⟨a, b, c, d, rfl⟩
 obtain ⟨c0, c1, c2, c3, rfl⟩ : ∃ c0 c1 c2 c3, chs = [c0, c1, c2, c3] := by
  match chs, h2 with
  | [a, b, c, d], _ => exact ⟨a, b, c, d, rfl⟩
 have e0 := h3 0 r0 _ c0 rfl rfl rfl
 have e1 := h3 1 r1 _ c1 rfl rfl rfl
 have e2 := h3 2 r2 _ c2 rfl rfl rfl
 have e3 := h3 3 r3 _ c3 rfl rfl rfl
 cases e1 with
 | x =>
   have rn : ∀ (b : Nat), b ≠ 1 → ∀ L, [r0, r1, r2, r3][b]? = some L → [r0, r3, r2][f4 b]? = some L := by
    intro b hb L hL
    match b, hb, hL with
    | 0, _, h => exact h
    | 2, _, h => exact h
    | 3, _, h => exact h
    | b + 4, _, h => simp at h
   refine ⟨[r0, r3, r2], [c0, c3, c2], rfl, rfl, fun L h => h, ?_, ?_⟩
   · simp only [z2n, z6a, z3a, z3f]
     exact List.Perm.append_left _ z5a
   · rintro i L ab c q1 q2 q3
     match i, q1, q2, q3 with
     | 0, q1, q2, q3 => cases q1; cases q2; cases q3; exact e0.ren fun b hb => rn b (hl b hb)
     | 1, q1, q2, q3 => cases q1; cases q2; cases q3; exact e3.ren fun b hb => rn b (hB b hb)
     | 2, q1, q2, q3 => cases q1; cases q2; cases q3; exact e2.ren fun b hb => rn b (hA b hb)
     | i + 3, q1, q2, q3 => simp at q1
theorem PRun.pack {S : Mem → Prop} {g : FuncId} {args : List V} {Q : V → Mem → Prop} (hr : zam args = [])
 (hh : ∀ m, S m → PRun P g m (.r 0 0 :: args) fun x m' => zae x = [] ∧ ∃ (m2 : Mem) (S' : Mem → Prop), Nrm m' m2 ∧ S' m2 ∧ Q x [.o (Ob.of S')]) : PRun P g [.o (Ob.of S)] (.r 0 0 :: args) Q := by
 intro D ρ chs C h vs M F
 obtain ⟨L, rfl⟩ : ∃ L, ρ = [L] := by
  have := M.len
  match ρ, this with
  | [L], _ => exact ⟨L, rfl⟩
 obtain ⟨ch, rfl⟩ : ∃ c, chs = [c] := by
  have := M.lch
  match chs, this with
  | [c], _ => exact ⟨c, rfl⟩
 have he := M.ent 0 L _ ch rfl rfl rfl
 cases he with
 | o hf =>
   obtain ⟨m, ρ1, chs1, hS, l1, l2, ⟨L1, hL1, hb⟩, rfl, hent⟩ := hf
   have M1 : SAt D ρ1 m chs1 C h := ⟨l1, l2, hent, M.st.perm (by simp)⟩
   cases F with
   | cons h1 h2 =>
     obtain ⟨L', hL', rfl⟩ := h1.r_inv
     have : L' = L := by simpa using hL'.symm
     subst this
     have hp := Rp.r (D := D) (o := 0) hL1
     rw [hb] at hp
     have F1 := RpL.cons hp (zu1 (ρ' := ρ1) h2 hr)
     refine (hh m hS D ρ1 chs1 C h _ M1 F1).mono ?_
     rintro v h' ⟨D', s, chs', x, m', le, M', hv, hx, m2, S', hN, hS', hQ⟩
     have hL2 : (ρ1 ++ s)[0]? = some L1 := by rw [z2k (by have := (z2a.1 hL1).1; exact this)]; exact hL1
     obtain ⟨ρ2, chs2, k1, k2, k3, k4, k5⟩ := hN D' (ρ1 ++ s) chs' M'.len M'.lch M'.ent
     refine ⟨D', [], [chs2.flatten], x, [.o (Ob.of S')], le, ⟨rfl, rfl, ?_, M'.st.perm (by simpa using k4.append_right C.flatten)⟩, rp_data hv hx, hQ⟩
     rintro i K ab c q1 q2 q3
     cases i with
     | zero =>
       simp at q1 q2 q3
       subst q1 q2 q3
       exact .o ⟨m2, ρ2, chs2, hS', k1, k2, ⟨L1, k3 L1 hL2, hb⟩, rfl, k5⟩
     | succ i => simp at q2
end
mutual
def eqU : U → U → Bool
 | .i k n, .i k' n' => z14 (zap k) (zap k') && (n == n')
 | .b c, .b c' => c == c'
 | .s x, .s y => decide (x = y)
 | .l s r, .l s' r' => z14 s s' && eqR r r'
 | .p o, .p o' => eqO o o'
 | _, _ => false
def eqR : List (List U) → List (List U) → Bool
 | [], [] => true
 | a :: l, b :: r => eqUs a b && eqR l r
 | _, _ => false
def eqUs : List U → List U → Bool
 | [], [] => true
 | a :: l, b :: r => eqU a b && eqUs l r
 | _, _ => false
def eqO : Option (List U) → Option (List U) → Bool
 | none, none => true
 | some a, some b => eqUs a b
 | _, _ => false
end
mutual
theorem eqU_ok : ∀ {a b : U}, eqU a b = true → a = b
 | .i k n, .i k' n', h => by
   simp only [eqU, z17, beq_iff_eq] at h
   have := zcr (z18 h.1)
   rw [this, h.2]
 | .b c, .b c', h => by simp only [eqU, beq_iff_eq] at h; rw [h]
 | .s x, .s y, h => by simp only [eqU, decide_eq_true_eq] at h; rw [h]
 | .l s r, .l s' r', h => by
   simp only [eqU, z17] at h
   rw [z18 h.1, zv5 h.2]
 | .p o, .p o', h => by simp only [eqU] at h; rw [eqO_ok h]
 | .i .., .b .., h => by simp [eqU] at h
 | .i .., .s .., h => by simp [eqU] at h
 | .i .., .l .., h => by simp [eqU] at h
 | .i .., .p .., h => by simp [eqU] at h
 | .b .., .i .., h => by simp [eqU] at h
 | .b .., .s .., h => by simp [eqU] at h
 | .b .., .l .., h => by simp [eqU] at h
 | .b .., .p .., h => by simp [eqU] at h
 | .s .., .i .., h => by simp [eqU] at h
 | .s .., .b .., h => by simp [eqU] at h
 | .s .., .l .., h => by simp [eqU] at h
 | .s .., .p .., h => by simp [eqU] at h
 | .l .., .i .., h => by simp [eqU] at h
 | .l .., .b .., h => by simp [eqU] at h
 | .l .., .s .., h => by simp [eqU] at h
 | .l .., .p .., h => by simp [eqU] at h
 | .p .., .i .., h => by simp [eqU] at h
 | .p .., .b .., h => by simp [eqU] at h
 | .p .., .s .., h => by simp [eqU] at h
 | .p .., .l .., h => by simp [eqU] at h
theorem zv5 : ∀ {a b : List (List U)}, eqR a b = true → a = b
 | [], [], _ => rfl
 | a :: l, b :: r, h => by
   simp only [eqR, z17] at h
   rw [zlp h.1, zv5 h.2]
 | [], _ :: _, h => by simp [eqR] at h
 | _ :: _, [], h => by simp [eqR] at h
theorem zlp : ∀ {a b : List U}, eqUs a b = true → a = b
 | [], [], _ => rfl
 | a :: l, b :: r, h => by
   simp only [eqUs, z17] at h
   rw [eqU_ok h.1, zlp h.2]
 | [], _ :: _, h => by simp [eqUs] at h
 | _ :: _, [], h => by simp [eqUs] at h
theorem eqO_ok : ∀ {a b : Option (List U)}, eqO a b = true → a = b
 | none, none, _ => rfl
 | some a, some b, h => by simp only [eqO] at h; rw [zlp h]
 | none, some _, h => by simp [eqO] at h
 | some _, none, h => by simp [eqO] at h
end
mutual
def smV : V → V → Bool
 | .u x, .u y => eqU x y
 | .r b o, .r b' o' => z14 b b' && z14 o o'
 | .e b s k o, .e b' s' k' o' => z14 b b' && z14 s s' && (k == k') && z14 o o'
 | .g b o w k, .g b' o' w' k' => z14 b b' && z14 o o' && z14 w w' && (k == k')
 | .q c o, .q c' o' => eqUs c c' && z14 o o'
 | .w b, .w b' => z14 b b'
 | .c s r, .c s' r' => z14 s s' && eqR r r'
 | .m b, .m b' => z14 b b'
 | .nm, .nm => true
 | .nl s, .nl s' => z14 s s'
 | .f g a c, .f g' a' c' => z14 g g' && zww a a' && zww c c'
 | .a l, .a l' => zww l l'
 | .t l, .t l' => zww l l'
 | .n k w l, .n k' w' l' => z14 (zap k) (zap k') && z14 w w' && eqI l l'
 | .z, .z => true
 | .y b, .y b' => z14 b b'
 | .v b s l n c, .v b' s' l' n' c' => z14 b b' && z14 s s' && z14 l l' && z14 n n' && (c == c')
 | .sl b o n, .sl b' o' n' => z14 b b' && z14 o o' && z14 n n'
 | _, _ => false
def zww : List V → List V → Bool
 | [], [] => true
 | a :: l, b :: r => smV a b && zww l r
 | _, _ => false
end
mutual
theorem smV_ok : ∀ (a b : V), smV a b = true → a = b := fun a b h => by
 cases a <;> cases b <;> (try (simp [smV] at h; done)) <;> simp only [smV, z17, beq_iff_eq] at h
 case u.u => rw [eqU_ok h]
 case r.r => rw [z18 h.1, z18 h.2]
 case e.e => rw [z18 h.1.1.1, z18 h.1.1.2, h.1.2, z18 h.2]
 case g.g => rw [z18 h.1.1.1, z18 h.1.1.2, z18 h.1.2, h.2]
 case q.q => rw [zlp h.1, z18 h.2]
 case w.w => rw [z18 h]
 case c.c => rw [z18 h.1, zv5 h.2]
 case m.m => rw [z18 h]
 case nm.nm => rfl
 case nl.nl => rw [z18 h]
 case f.f g a c g' a' c' => rw [z18 h.1.1, ze0 a a' h.1.2, ze0 c c' h.2]
 case a.a l l' => rw [ze0 l l' h]
 case t.t l l' => rw [ze0 l l' h]
 case n.n =>
  rw [zcr (z18 h.1.1), z18 h.1.2]
  have := h.2
  rw [zlq, decide_eq_true_eq] at this
  rw [this]
 case z.z => rfl
 case y.y => rw [z18 h]
 case v.v => rw [z18 h.1.1.1.1, z18 h.1.1.1.2, z18 h.1.1.2, z18 h.1.2, h.2]
 case sl.sl => rw [z18 h.1.1, z18 h.1.2, z18 h.2]
theorem ze0 : ∀ (a b : List V), zww a b = true → a = b
 | [], [], _ => rfl
 | a :: l, b :: r, h => by
   simp only [zww, z17] at h
   rw [smV_ok a b h.1, ze0 l r h.2]
 | [], _ :: _, h => by simp [zww] at h
 | _ :: _, [], h => by simp [zww] at h
end
def eqMr : List (MK × List U) → List (MK × List U) → Bool
 | [], [] => true
 | a :: l, b :: r => decide (a.1 = b.1) && eqUs a.2 b.2 && eqMr l r
 | _, _ => false
theorem z1x : ∀ {a b : List (MK × List U)}, eqMr a b = true → a = b
 | [], [], _ => rfl
 | (k, a) :: l, (k', b) :: r, h => by
   simp only [eqMr, z17, decide_eq_true_eq] at h
   rw [h.1.1, zlp h.1.2, z1x h.2]
 | [], _ :: _, h => by simp [eqMr] at h
 | _ :: _, [], h => by simp [eqMr] at h
def eqA : AB → AB → Bool
 | .c l, .c l' => zww l l'
 | .w E s r, .w E' s' r' => z14 E E' && z14 s s' && eqR r r'
 | .p k s g r, .p k' s' g' r' => zxl k k' && z14 s s' && (g == g') && eqMr r r'
 | .x, .x => true
 | .tk, .tk => true
 | .cw E s n l, .cw E' s' n' l' => z14 E E' && z14 s s' && z14 n n' && zww l l'
 | .o I, .o J => eqOb I J
 | _, _ => false
theorem eqA_ok {a b : AB} (h : eqA a b = true) : a = b := by
 cases a <;> cases b <;> (try (simp [eqA] at h; done)) <;> simp only [eqA, z17, beq_iff_eq] at h
 case c.c => rw [ze0 _ _ h]
 case w.w => rw [z18 h.1.1, z18 h.1.2, zv5 h.2]
 case p.p => rw [zfz h.1.1.1, z18 h.1.1.2, h.1.2, z1x h.2]
 case x.x => rfl
 case tk.tk => rfl
 case o.o => rw [eqOb_ok h]
 case cw.cw => rw [z18 h.1.1.1, z18 h.1.1.2, z18 h.1.2, ze0 _ _ h.2]
def eqM : Mem → Mem → Bool
 | [], [] => true
 | a :: l, b :: r => eqA a b && eqM l r
 | _, _ => false
theorem z1y : ∀ {a b : Mem}, eqM a b = true → a = b
 | [], [], _ => rfl
 | a :: l, b :: r, h => by
   simp only [eqM, z17] at h
   rw [eqA_ok h.1, z1y h.2]
 | [], _ :: _, h => by simp [eqM] at h
 | _ :: _, [], h => by simp [eqM] at h
def canonE (n : Nat) (t : List V) (m : Mem) : Option (List V × Mem) :=
 cond (z19 m.length (n + 1)) (some (t, m)) (canE (clo m 1000 (zam t ++ (m.take n).flatMap za5) (z2b n)))
where canE (ix : List Nat) : Option (List V × Mem) := cond (zd5 ix (zam t) && zd5 ix (ix.flatMap fun b => za5 (mg m b)) && zgo m.length ix) (some (zd8 (fun b => zh9 ix b 0) t, zm2 m ix)) none
theorem zsc {n : Nat} {t : List V} {m : Mem} {r : List V × Mem} {K : List V → Mem → Prop} (h : canonE n t m = some r) (hK : K r.1 r.2) : zdh n K t m := by
 unfold canonE at h
 unfold zdh
 generalize z19 m.length (n + 1) = c at h ⊢
 cases c
 · simp only [cond_false] at h ⊢
   unfold canonE.canE at h
   unfold canonK
   obtain ⟨h1, h2⟩ := zai h
   cases h2
   rw [h1]; exact hK
 · cases h; exact hK
section
variable {α : Type}
noncomputable def zeu (d : α) (l : List α) (n : Nat) : α := List.rec (motive := fun _ => Nat → α) (fun _ => d) (fun a _ ih k => Nat.rec (motive := fun _ => α) a (fun j _ => ih j) k) l n
noncomputable def zzp (l : List α) (n : Nat) : Option α := List.rec (motive := fun _ => Nat → Option α) (fun _ => none) (fun a _ ih k => Nat.rec (motive := fun _ => Option α) (some a) (fun j _ => ih j) k) l n
noncomputable def zma (l : List α) (n : Nat) (v : α) : List α := List.rec (motive := fun _ => Nat → List α) (fun _ => []) (fun a r ih k => Nat.rec (motive := fun _ => List α) (v :: r) (fun j _ => a :: ih j) k) l n
noncomputable def ze4 (l r : List α) : List α := List.rec (motive := fun _ => List α) r (fun a _ ih => a :: ih) l
noncomputable def zc8 (l : List α) : Nat := List.rec (motive := fun _ => Nat → Nat) (fun k => k) (fun _ _ ih k => ih (Nat.succ k)) l 0
noncomputable def zw1 (n : Nat) (l : List α) : List α := List.rec (motive := fun _ => Nat → List α) (fun _ => []) (fun a _ ih k => Nat.rec (motive := fun _ => List α) [] (fun j _ => a :: ih j) k) l n
noncomputable def zc9 (n : Nat) (l : List α) : List α := List.rec (motive := fun _ => Nat → List α) (fun _ => []) (fun a r ih k => Nat.rec (motive := fun _ => List α) (a :: r) (fun j _ => ih j) k) l n
noncomputable def zw2 {β : Type} (f : α → β) (l : List α) : List β := List.rec (motive := fun _ => List β) [] (fun a _ ih => f a :: ih) l
theorem zu4 : ∀ (l : List α) (n : Nat), zzp l n = l[n]?
 | [], n => rfl
 | a :: l, 0 => rfl
 | a :: l, n + 1 => by rw [z4t, ← zu4 l n]; rfl
theorem zgf : ∀ (l : List α) (n : Nat) (v : α), zma l n v = l.set n v
 | [], n, v => rfl
 | a :: l, 0, v => rfl
 | a :: l, n + 1, v => by rw [List.set_cons_succ, ← zgf l n v]; rfl
theorem za4 : ∀ (l r : List α), ze4 l r = l ++ r
 | [], r => rfl
 | a :: l, r => by rw [z3r, ← za4 l r]; rfl
theorem zzo : ∀ (l : List α) (k : Nat), List.rec (motive := fun _ => Nat → Nat) (fun k => k) (fun _ _ ih k => ih (Nat.succ k)) l k = l.length + k
 | [], k => by simp
 | a :: l, k => by
   show List.rec (motive := fun _ => Nat → Nat) (fun k => k) (fun _ _ ih k => ih (Nat.succ k)) l (Nat.succ k) = _
   rw [zzo l (Nat.succ k), z2o, Nat.succ_eq_add_one]; omega
theorem za3 (l : List α) : zc8 l = l.length := zzo l 0
theorem zn5 : ∀ (n : Nat) (l : List α), zw1 n l = l.take n
 | 0, [] => rfl
 | n + 1, [] => rfl
 | 0, a :: l => rfl
 | n + 1, a :: l => by rw [List.take_succ_cons, ← zn5 n l]; rfl
theorem zg0 : ∀ (n : Nat) (l : List α), zc9 n l = l.drop n
 | 0, [] => rfl
 | n + 1, [] => rfl
 | 0, a :: l => rfl
 | n + 1, a :: l => by rw [z59, ← zg0 n l]; rfl
theorem zgx {β : Type} (f : α → β) : ∀ (l : List α), zw2 f l = l.map f
 | [] => rfl
 | a :: l => by rw [z2s, ← zgx f l]; rfl
end
theorem zdt : ∀ (l : List V) (n : Nat), zeu .z l n = zc7 l n
 | [], n => rfl
 | a :: l, 0 => rfl
 | a :: l, n + 1 => zdt l n
theorem zce : ∀ (l : Mem) (n : Nat), zeu .x l n = mg l n
 | [], n => rfl
 | a :: l, 0 => rfl
 | a :: l, n + 1 => zce l n
theorem ze3 : ∀ (l : List V) (n : Nat) (v : V), zma l n v = zjs l n v
 | [], n, v => rfl
 | a :: l, 0, v => rfl
 | a :: l, n + 1, v => by simp only [zjs]; rw [← ze3 l n v]; rfl
theorem zzl : ∀ (l : Mem) (n : Nat) (v : AB), zma l n v = ms l n v
 | [], n, v => rfl
 | a :: l, 0, v => rfl
 | a :: l, n + 1, v => by simp only [ms]; rw [← zzl l n v]; rfl
theorem zn7 : ∀ (l : List U) (n : Nat), zzp l n = ug l n
 | [], n => rfl
 | a :: l, 0 => rfl
 | a :: l, n + 1 => zn7 l n
noncomputable def inR (l : List Nat) (b : Nat) : Bool := List.rec (motive := fun _ => Bool) false (fun x _ ih => cond (z14 x b) true ih) l
theorem zrm : ∀ (l : List Nat) (b : Nat), inR l b = inL l b
 | [], b => rfl
 | x :: l, b => by
   simp only [inL]; rw [← zrm l b]
   show cond (z14 x b) true (inR l b) = _
   cases z14 x b <;> rfl
def zsq (a b : Bool) : Bool := cond a b false
theorem zin (a b : Bool) : zsq a b = (a && b) := by cases a <;> rfl
noncomputable def zhq (o : Nat) (l : List V) : Option (List V) :=
 List.rec (motive := fun _ => Nat → Option (List V)) (fun o => Nat.rec (motive := fun _ => Option (List V)) (some []) (fun _ _ => none) o)
  (fun x l ih o => Nat.rec (motive := fun _ => Option (List V)) (some (x :: l)) (fun o' _ => cond (z19 (wd x) (Nat.succ o')) (cond (z14 (wd x) 0) none (ih (Nat.sub (Nat.succ o') (wd x)))) none) o) l o
theorem zca : ∀ (l : List V) (o : Nat), zhq o l = zbu o l
 | [], 0 => rfl
 | [], o + 1 => rfl
 | x :: l, 0 => rfl
 | x :: l, o + 1 => by
   simp only [zbu]
   rw [← zca l (o + 1 - wd x)]
   show cond (z19 (wd x) (o + 1)) (cond (z14 (wd x) 0) none (zhq (o + 1 - wd x) l)) none = _
   cases z19 (wd x) (o + 1) <;> cases z14 (wd x) 0 <;> rfl
noncomputable def zw5 (n : Nat) (l : List V) : Option (List V) :=
 List.rec (motive := fun _ => Nat → Option (List V)) (fun o => Nat.rec (motive := fun _ => Option (List V)) (some []) (fun _ _ => none) o)
  (fun x l ih o => Nat.rec (motive := fun _ => Option (List V)) (some []) (fun o' _ => cond (z19 (wd x) (Nat.succ o')) (cond (z14 (wd x) 0) none
   (Option.rec (motive := fun _ => Option (List V)) none (fun r => some (x :: r)) (ih (Nat.sub (Nat.succ o') (wd x))))) none) o) l n
theorem zji : ∀ (l : List V) (o : Nat), zw5 o l = zf3 o l
 | [], 0 => rfl
 | [], o + 1 => rfl
 | x :: l, 0 => rfl
 | x :: l, o + 1 => by
   simp only [zf3]
   rw [← zji l (o + 1 - wd x)]
   show cond (z19 (wd x) (o + 1)) (cond (z14 (wd x) 0) none (Option.rec (motive := fun _ => Option (List V)) none (fun r => some (x :: r)) (zw5 (o + 1 - wd x) l))) none = _
   cases z19 (wd x) (o + 1) <;> cases z14 (wd x) 0 <;> first | rfl | (cases zw5 (o + 1 - wd x) l <;> rfl)
noncomputable def putR (new : List V) (o : Nat) (l : List V) : Option (List V) :=
 List.rec (motive := fun _ => Nat → Option (List V)) (fun o => Nat.rec (motive := fun _ => Option (List V)) (Option.rec (motive := fun _ => Option (List V)) none (fun r => some (ze4 new r)) (zhq (wds new) [])) (fun _ _ => none) o)
  (fun x l ih o => Nat.rec (motive := fun _ => Option (List V)) (Option.rec (motive := fun _ => Option (List V)) none (fun r => some (ze4 new r)) (zhq (wds new) (x :: l)))
   (fun o' _ => cond (z19 (wd x) (Nat.succ o')) (cond (z14 (wd x) 0) none
   (Option.rec (motive := fun _ => Option (List V)) none (fun r => some (x :: r)) (ih (Nat.sub (Nat.succ o') (wd x))))) none) o) l o
theorem zz5 (new : List V) : ∀ (l : List V) (o : Nat), putR new o l = znc new o l
 | [], 0 => by
   show Option.rec (motive := fun _ => Option (List V)) none (fun r => some (ze4 new r)) (zhq (wds new) []) = _
   unfold znc; rw [zca]; cases zbu (wds new) [] <;> first | rfl | (simp only [za4])
 | [], o + 1 => rfl
 | x :: l, 0 => by
   show Option.rec (motive := fun _ => Option (List V)) none (fun r => some (ze4 new r)) (zhq (wds new) (x :: l)) = _
   unfold znc; rw [zca]; cases zbu (wds new) (x :: l) <;> first | rfl | (simp only [za4])
 | x :: l, o + 1 => by
   simp only [znc]
   rw [← zz5 new l (o + 1 - wd x)]
   show cond (z19 (wd x) (o + 1)) (cond (z14 (wd x) 0) none (Option.rec (motive := fun _ => Option (List V)) none (fun r => some (x :: r)) (putR new (o + 1 - wd x) l))) none = _
   cases z19 (wd x) (o + 1) <;> cases z14 (wd x) 0 <;> first | rfl | (cases putR new (o + 1 - wd x) l <;> rfl)
noncomputable def addF (x y : Int) : Int := Int.casesOn (motive := fun _ => Int) x (fun a => Int.casesOn (motive := fun _ => Int) y (fun b => .ofNat (Nat.add a b)) (fun b => cond (z19 (Nat.succ b) a) (.ofNat (Nat.sub a (Nat.succ b))) (.negSucc (Nat.sub b a))))
 (fun a => Int.casesOn (motive := fun _ => Int) y (fun b => cond (z19 (Nat.succ a) b) (.ofNat (Nat.sub b (Nat.succ a))) (.negSucc (Nat.sub a b))) (fun b => .negSucc (Nat.succ (Nat.add a b))))
theorem zpj {α : Type} {a b : Nat} {x y : α} : cond (z19 a b) x y = if a ≤ b then x else y := by
 by_cases h : a ≤ b
 · rw [z32 h]; simp [h]
 · have : z19 a b = false := by
    cases e : z19 a b with
    | false => rfl
    | true => exact absurd (z2w e) h
   rw [this]; simp [h]
theorem zui (x y : Int) : addF x y = x + y := by
 cases x <;> cases y <;> simp only [addF, zpj]
 · rfl
 · rename_i a b
   show (if b + 1 ≤ a then Int.ofNat (a - (b + 1)) else Int.negSucc (b - a)) = _
   split <;> simp only [z4q, z40] <;> omega
 · rename_i a b
   show (if a + 1 ≤ b then Int.ofNat (b - (a + 1)) else Int.negSucc (a - b)) = _
   split <;> simp only [z4q, z40] <;> omega
 · rename_i a b
   show Int.negSucc (a + b + 1) = _
   simp only [z40]; omega
noncomputable def negF (x : Int) : Int := Int.casesOn (motive := fun _ => Int) x (fun a => Nat.rec (motive := fun _ => Int) (.ofNat 0) (fun k _ => .negSucc k) a) (fun a => .ofNat (Nat.succ a))
theorem negF_eq (x : Int) : negF x = -x := by
 cases x with
 | ofNat a => cases a <;> rfl
 | negSucc a => rfl
noncomputable def subF (x y : Int) : Int := addF x (negF y)
theorem subF_eq (x y : Int) : subF x y = x - y := by rw [subF, zui, negF_eq]; rfl
noncomputable def eqF (x y : Int) : Bool := Int.casesOn (motive := fun _ => Bool) x (fun a => Int.casesOn (motive := fun _ => Bool) y (fun b => z14 a b) (fun _ => false)) (fun a => Int.casesOn (motive := fun _ => Bool) y (fun _ => false) (fun b => z14 a b))
theorem eqF_eq (x y : Int) : eqF x y = (x == y) := by
 cases x <;> cases y <;> simp only [eqF]
 · rename_i a b
   cases h : z14 a b with
   | true => rw [z18 h]; simp
   | false => have := z6x h; symm; simp only [beq_eq_false_iff_ne, z4q, ne_eq]; omega
 · rfl
 · rfl
 · rename_i a b
   cases h : z14 a b with
   | true => rw [z18 h]; simp
   | false => have := z6x h; symm; simp only [beq_eq_false_iff_ne, z40, ne_eq]; omega
noncomputable def leF (x y : Int) : Bool := Int.casesOn (motive := fun _ => Bool) x (fun a => Int.casesOn (motive := fun _ => Bool) y (fun b => z19 a b) (fun _ => false)) (fun a => Int.casesOn (motive := fun _ => Bool) y (fun _ => true) (fun b => z19 b a))
theorem ble_dec (a b : Nat) : z19 a b = decide (a ≤ b) := by
 by_cases h : a ≤ b
 · rw [z32 h]; simp [h]
 · have : z19 a b = false := by
    cases e : z19 a b with
    | false => rfl
    | true => exact absurd (z2w e) h
   rw [this]; simp [h]
theorem z1d (x y : Int) : leF x y = decide (x ≤ y) := by
 cases x <;> cases y <;> simp only [leF, ble_dec]
 all_goals (symm; simp only [z4q, z40]; first | (rw [decide_eq_decide]; omega) | (rw [decide_eq_false_iff_not]; omega) | (rw [decide_eq_true_iff]; omega))
noncomputable def ltF (x y : Int) : Bool := not (leF y x)
theorem ltF_eq (x y : Int) : ltF x y = decide (x < y) := by
 rw [ltF, z1d]
 by_cases h : x < y
 · have h2 : ¬ y ≤ x := by omega
   simp [h, h2]
 · have h2 : y ≤ x := by omega
   simp [h, h2]
noncomputable def zws (k : IntKind) (n : Int) : Int :=
 IntKind.casesOn (motive := fun _ => Int) k (k.wrap n) (k.wrap n) (k.wrap n)
  (Int.casesOn (motive := fun _ => Int) n (fun a => cond (z19 a 9223372036854775807) (.ofNat a) (k.wrap n)) (fun a => cond (z19 a 9223372036854775807) (.negSucc a) (k.wrap n)))
  (Int.casesOn (motive := fun _ => Int) n (fun a => cond (z19 a 255) (.ofNat a) (k.wrap n)) (fun a => k.wrap n))
  (k.wrap n)
  (Int.casesOn (motive := fun _ => Int) n (fun a => cond (z19 a 4294967295) (.ofNat a) (k.wrap n)) (fun a => k.wrap n))
  (Int.casesOn (motive := fun _ => Int) n (fun a => cond (z19 a 18446744073709551615) (.ofNat a) (k.wrap n)) (fun a => k.wrap n))
theorem wrapF_eq (k : IntKind) (n : Int) : zws k n = k.wrap n := by
 cases k <;> simp only [zws] <;> try with_reducible rfl
 case i64 =>
  cases n <;> simp only [zpj] <;> split <;> first | with_reducible rfl | skip
  · rename_i a h; exact (w64 (by simp only [z4q]; omega) (by simp only [z4q]; omega)).symm
  · rename_i a h; exact (w64 (by simp only [z40]; omega) (by simp only [z40]; omega)).symm
 all_goals
  cases n <;> simp only [zpj] <;> try with_reducible rfl
  split
  · rename_i h
    simp only [z13, IntKind.bits, IntKind.signed, Bool.false_and, z3n, if_false, z4q]
    omega
  · with_reducible rfl
inductive N8 (α : Type) where
 | mk (a0 a1 a2 a3 a4 a5 a6 a7 : α)
structure SelF (α : Type) where
 g : N8 α → α
 s : N8 α → α → N8 α
section
variable {α : Type}
noncomputable def ziu (d : Nat) : SelF α :=
 match d with
 | 0 => ⟨fun t => N8.rec (motive := fun _ => α) (fun a _ _ _ _ _ _ _ => a) t, fun t v => N8.rec (motive := fun _ => N8 α) (fun _ b c d e f g h => .mk v b c d e f g h) t⟩
 | 1 => ⟨fun t => N8.rec (motive := fun _ => α) (fun _ a _ _ _ _ _ _ => a) t, fun t v => N8.rec (motive := fun _ => N8 α) (fun a _ c d e f g h => .mk a v c d e f g h) t⟩
 | 2 => ⟨fun t => N8.rec (motive := fun _ => α) (fun _ _ a _ _ _ _ _ => a) t, fun t v => N8.rec (motive := fun _ => N8 α) (fun a b _ d e f g h => .mk a b v d e f g h) t⟩
 | 3 => ⟨fun t => N8.rec (motive := fun _ => α) (fun _ _ _ a _ _ _ _ => a) t, fun t v => N8.rec (motive := fun _ => N8 α) (fun a b c _ e f g h => .mk a b c v e f g h) t⟩
 | 4 => ⟨fun t => N8.rec (motive := fun _ => α) (fun _ _ _ _ a _ _ _ => a) t, fun t v => N8.rec (motive := fun _ => N8 α) (fun a b c d _ f g h => .mk a b c d v f g h) t⟩
 | 5 => ⟨fun t => N8.rec (motive := fun _ => α) (fun _ _ _ _ _ a _ _ => a) t, fun t v => N8.rec (motive := fun _ => N8 α) (fun a b c d e _ g h => .mk a b c d e v g h) t⟩
 | 6 => ⟨fun t => N8.rec (motive := fun _ => α) (fun _ _ _ _ _ _ a _ => a) t, fun t v => N8.rec (motive := fun _ => N8 α) (fun a b c d e f _ h => .mk a b c d e f v h) t⟩
 | _ => ⟨fun t => N8.rec (motive := fun _ => α) (fun _ _ _ _ _ _ _ a => a) t, fun t v => N8.rec (motive := fun _ => N8 α) (fun a b c d e f g _ => .mk a b c d e f g v) t⟩
theorem lt8 {d : Nat} (h : d < 8) : d = 0 ∨ d = 1 ∨ d = 2 ∨ d = 3 ∨ d = 4 ∨ d = 5 ∨ d = 6 ∨ d = 7 := by omega
theorem zqi {d e : Nat} (hd : d < 8) (he : e < 8) (t : N8 α) (v : α) : (ziu d).g ((ziu e).s t v) = if e = d then v else (ziu d).g t := by
 cases t
 rcases lt8 hd with rfl | rfl | rfl | rfl | rfl | rfl | rfl | rfl <;> rcases lt8 he with rfl | rfl | rfl | rfl | rfl | rfl | rfl | rfl <;> rfl
end
inductive Fr where
 | a (n : Nat) (t : N8 (N8 V))
 | b (n : Nat) (t : N8 (N8 (N8 V)))
 | c (l : List V)
noncomputable def gaF (i : Nat) (t : N8 (N8 V)) : V := (ziu (i % 8)).g ((ziu (i / 8 % 8)).g t)
noncomputable def gbF (i : Nat) (t : N8 (N8 (N8 V))) : V := (ziu (i % 8)).g ((ziu (i / 8 % 8)).g ((ziu (i / 64 % 8)).g t))
noncomputable def saF (i : Nat) (t : N8 (N8 V)) (v : V) : N8 (N8 V) := (ziu (i / 8 % 8)).s t ((ziu (i % 8)).s ((ziu (i / 8 % 8)).g t) v)
noncomputable def sbF (i : Nat) (t : N8 (N8 (N8 V))) (v : V) : N8 (N8 (N8 V)) := (ziu (i / 64 % 8)).s t ((ziu (i / 8 % 8)).s ((ziu (i / 64 % 8)).g t) ((ziu (i % 8)).s ((ziu (i / 8 % 8)).g ((ziu (i / 64 % 8)).g t)) v))
theorem m8 (x : Nat) : x % 8 < 8 := Nat.mod_lt _ (by decide)
theorem ga_sa {i j : Nat} (hi : i < 64) (hj : j < 64) (t : N8 (N8 V)) (v : V) : gaF j (saF i t v) = if i = j then v else gaF j t := by
 unfold gaF saF
 rw [zqi (m8 _) (m8 _)]
 by_cases h : i / 8 % 8 = j / 8 % 8
 · rw [if_pos h, zqi (m8 _) (m8 _), h]
   by_cases h2 : i % 8 = j % 8
   · rw [if_pos h2, if_pos (by omega)]
   · rw [if_neg h2, if_neg (by omega)]
 · rw [if_neg h, if_neg (by omega)]
theorem gb_sb {i j : Nat} (hi : i < 512) (hj : j < 512) (t : N8 (N8 (N8 V))) (v : V) : gbF j (sbF i t v) = if i = j then v else gbF j t := by
 unfold gbF sbF
 rw [zqi (m8 _) (m8 _)]
 by_cases h : i / 64 % 8 = j / 64 % 8
 · rw [if_pos h, zqi (m8 _) (m8 _), h]
   by_cases h1 : i / 8 % 8 = j / 8 % 8
   · rw [if_pos h1, zqi (m8 _) (m8 _), h1]
     by_cases h2 : i % 8 = j % 8
     · rw [if_pos h2, if_pos (by omega)]
     · rw [if_neg h2, if_neg (by omega)]
   · rw [if_neg h1, if_neg (by omega)]
 · rw [if_neg h, if_neg (by omega)]
noncomputable def Fr.l : Fr → List V
 | .a n t => (z2b (min n 64)).map fun i => gaF i t
 | .b n t => (z2b (min n 512)).map fun i => gbF i t
 | .c l => l
structure AccF where
 g : Fr → V
 s : Fr → V → Fr
noncomputable def accS (i : Nat) : AccF :=
 SelF.rec (motive := fun _ => AccF) (fun g0 s0 => SelF.rec (motive := fun _ => AccF) (fun g1 s1 => SelF.rec (motive := fun _ => AccF) (fun g2 s2 =>
  ⟨fun fr => Fr.rec (motive := fun _ => V) (fun n t => Bool.rec (motive := fun _ => V) .z (g0 (g1 t)) (z19 (Nat.succ i) n)) (fun n t => Bool.rec (motive := fun _ => V) .z (g0 (g1 (g2 t))) (z19 (Nat.succ i) n)) (fun l => zeu .z l i) fr,
   fun fr v => Fr.rec (motive := fun _ => Fr) (fun n t => .a n (s1 t (s0 (g1 t) v))) (fun n t => .b n (s2 t (s1 (g2 t) (s0 (g1 (g2 t)) v)))) (fun l => .c (zma l i v)) fr⟩)
  (ziu (i / 64 % 8) : SelF (N8 (N8 V)))) (ziu (i / 8 % 8) : SelF (N8 V))) (ziu (i % 8) : SelF V)
noncomputable def accL (i : Nat) : AccF :=
 SelF.rec (motive := fun _ => AccF) (fun g0 s0 => SelF.rec (motive := fun _ => AccF) (fun g1 s1 => SelF.rec (motive := fun _ => AccF) (fun g2 s2 =>
  ⟨fun fr => Fr.rec (motive := fun _ => V) (fun n t => .z) (fun n t => Bool.rec (motive := fun _ => V) .z (g0 (g1 (g2 t))) (z19 (Nat.succ i) n)) (fun l => zeu .z l i) fr,
   fun fr v => Fr.rec (motive := fun _ => Fr) (fun n t => .a n t) (fun n t => .b n (s2 t (s1 (g2 t) (s0 (g1 (g2 t)) v)))) (fun l => .c (zma l i v)) fr⟩)
  (ziu (i / 64 % 8) : SelF (N8 (N8 V)))) (ziu (i / 8 % 8) : SelF (N8 V))) (ziu (i % 8) : SelF V)
noncomputable def accH (i : Nat) : AccF := ⟨fun fr => zc7 fr.l i, fun fr v => .c (zjs fr.l i v)⟩
noncomputable def acc (i : Nat) : AccF := Bool.rec (motive := fun _ => AccF) (Bool.rec (motive := fun _ => AccF) (accH i) (accL i) (z19 (Nat.succ i) 512)) (accS i) (z19 (Nat.succ i) 64)
theorem zgr (l : List V) (i : Nat) : zc7 l i = (l[i]?).getD .z := by
 induction l generalizing i with
 | nil => rfl
 | cons a l ih => cases i with
   | zero => rfl
   | succ i => rw [z4t, ← ih]; rfl
theorem zqp {f : Nat → V} {n i : Nat} : zc7 ((z2b n).map f) i = if i < n then f i else .z := by
 rw [zgr, z2i]
 by_cases h : i < n
 · rw [z5s h, if_pos h]; rfl
 · rw [if_neg h, z3u (by simpa using h)]; rfl
theorem zoc {f : Nat → V} {n k i : Nat} (h : i < k) : (if i + 1 ≤ n then f i else .z) = zc7 ((z2b (min n k)).map f) i := by
 rw [zqp]
 by_cases h2 : i + 1 ≤ n
 · rw [if_pos h2, if_pos (by omega)]
 · rw [if_neg h2, if_neg (by omega)]
theorem zj6 {f g : Nat → V} {n i : Nat} {v : V} (h : ∀ j, j < n → g j = if i = j then v else f j) : (z2b n).map g = zjs ((z2b n).map f) i v := by
 rw [← ze3, zgf]
 apply z4m (by simp)
 intro j h1 h2
 simp only [z2d, z6y] at h1
 simp only [z4p, z58, List.getElem_set, h j h1]
theorem bleR {α : Type} {a b : Nat} {x y : α} : Bool.rec (motive := fun _ => α) x y (z19 a b) = if a ≤ b then y else x := by
 by_cases h : a ≤ b
 · rw [z32 h, if_pos h]
 · have : z19 a b = false := by
    cases e : z19 a b with
    | false => rfl
    | true => exact absurd (z2w e) h
   rw [this, if_neg h]
theorem accS_g (i : Nat) (fr : Fr) : (accS i).g fr = match fr with
 | .a n t => if i + 1 ≤ n then gaF i t else .z
 | .b n t => if i + 1 ≤ n then gbF i t else .z
 | .c l => zeu .z l i := by
 cases fr <;> first | rfl | exact bleR
theorem accL_g (i : Nat) (fr : Fr) : (accL i).g fr = match fr with
 | .a n t => .z
 | .b n t => if i + 1 ≤ n then gbF i t else .z
 | .c l => zeu .z l i := by
 cases fr <;> first | rfl | exact bleR
theorem acc_g (i : Nat) (fr : Fr) : (acc i).g fr = zc7 fr.l i := by
 unfold acc
 rw [bleR, bleR]
 split
 · rename_i h
   rw [accS_g]
   cases fr with
   | a n t => exact zoc (f := fun i => gaF i t) (n := n) (k := 64) (by omega)
   | b n t => exact zoc (f := fun i => gbF i t) (n := n) (k := 512) (by omega)
   | c l => exact zdt l i
 · split
   · rename_i h h2
     rw [accL_g]
     cases fr with
     | a n t => dsimp only [Fr.l]; rw [zqp, if_neg (by omega)]
     | b n t => exact zoc (f := fun i => gbF i t) (n := n) (k := 512) (by omega)
     | c l => exact zdt l i
   · rfl
theorem accS_s (i : Nat) (fr : Fr) (v : V) : (accS i).s fr v = match fr with
 | .a n t => .a n (saF i t v)
 | .b n t => .b n (sbF i t v)
 | .c l => .c (zma l i v) := by
 cases fr <;> rfl
theorem accL_s (i : Nat) (fr : Fr) (v : V) : (accL i).s fr v = match fr with
 | .a n t => .a n t
 | .b n t => .b n (sbF i t v)
 | .c l => .c (zma l i v) := by
 cases fr <;> rfl
theorem vset_ge {l : List V} {i : Nat} {v : V} (h : l.length ≤ i) : zjs l i v = l := by rw [← ze3, zgf, z5t h]
theorem acc_s (i : Nat) (fr : Fr) (v : V) : ((acc i).s fr v).l = zjs fr.l i v := by
 unfold acc
 rw [bleR, bleR]
 split
 · rename_i h
   rw [accS_s]
   cases fr with
   | a n t => exact zj6 fun j hj => ga_sa (by omega) (by omega) t v
   | b n t => exact zj6 fun j hj => gb_sb (by omega) (by omega) t v
   | c l => exact ze3 l i v
 · split
   · rename_i h h2
     rw [accL_s]
     cases fr with
     | a n t => dsimp only [Fr.l]; rw [vset_ge (by simp; omega)]
     | b n t => exact zj6 fun j hj => gb_sb (by omega) (by omega) t v
     | c l => exact ze3 l i v
   · rfl
noncomputable def zi8 (l : List V) : N8 V := .mk (zeu .z l 0) (zeu .z l 1) (zeu .z l 2) (zeu .z l 3) (zeu .z l 4) (zeu .z l 5) (zeu .z l 6) (zeu .z l 7)
noncomputable def zhn (l : List V) : N8 (N8 V) := .mk (zi8 l) (zi8 (zc9 8 l)) (zi8 (zc9 16 l)) (zi8 (zc9 24 l)) (zi8 (zc9 32 l)) (zi8 (zc9 40 l)) (zi8 (zc9 48 l)) (zi8 (zc9 56 l))
noncomputable def fill3 (l : List V) : N8 (N8 (N8 V)) := .mk (zhn l) (zhn (zc9 64 l)) (zhn (zc9 128 l)) (zhn (zc9 192 l)) (zhn (zc9 256 l)) (zhn (zc9 320 l)) (zhn (zc9 384 l)) (zhn (zc9 448 l))
theorem zjt (l : List V) (k i : Nat) : zc7 (l.drop k) i = zc7 l (k + i) := by rw [zgr, zgr, z4i]
theorem z1v {l : List V} {i : Nat} (h : i < 8) : (ziu i).g (zi8 l) = zc7 l i := by
 rcases lt8 h with rfl | rfl | rfl | rfl | rfl | rfl | rfl | rfl <;> exact zdt l _
theorem z1u {l : List V} {i : Nat} (h : i < 8) : (ziu i).g (zhn l) = zi8 (l.drop (8 * i)) := by
 rcases lt8 h with rfl | rfl | rfl | rfl | rfl | rfl | rfl | rfl <;> first | (show zi8 (zc9 _ l) = _; rw [zg0]) | (show zi8 l = _; rw [Nat.mul_zero, z38])
theorem fill3_g {l : List V} {i : Nat} (h : i < 8) : (ziu i).g (fill3 l) = zhn (l.drop (64 * i)) := by
 rcases lt8 h with rfl | rfl | rfl | rfl | rfl | rfl | rfl | rfl <;> first | (show zhn (zc9 _ l) = _; rw [zg0]) | (show zhn l = _; rw [Nat.mul_zero, z38])
theorem ga_fill {l : List V} {i : Nat} (h : i < 64) : gaF i (zhn l) = zc7 l i := by
 unfold gaF
 rw [z1u (m8 _), z1v (m8 _), zjt]
 congr 1; omega
theorem gb_fill {l : List V} {i : Nat} (h : i < 512) : gbF i (fill3 l) = zc7 l i := by
 unfold gbF
 rw [fill3_g (m8 _), z1u (m8 _), z1v (m8 _), zjt, zjt]
 congr 1; omega
noncomputable def zsF (n : Nat) : List V := Nat.rec (motive := fun _ => List V) [] (fun _ ih => .z :: ih) n
theorem zsF_eq : ∀ n, zsF n = z2g n .z
 | 0 => rfl
 | n + 1 => by rw [z4j, ← zsF_eq n]; rfl
noncomputable def Fr.mk (l : List V) (k n : Nat) : Fr := Bool.rec (motive := fun _ => Fr) (Bool.rec (motive := fun _ => Fr) (.c (ze4 l (zsF k))) (.b n (fill3 l)) (z19 n 512)) (.a n (zhn l)) (z19 n 64)
theorem zm8 {l : List V} {k n : Nat} {f : Nat → V} (hn : n = l.length + k) (h : ∀ i, i < n → f i = zc7 l i) : (z2b n).map f = l ++ z2g k .z := by
 apply z4m (by simp [hn])
 intro j h1 h2
 simp only [z2d, z6y] at h1
 rw [z4p, z58, h j h1, zgr]
 by_cases hj : j < l.length
 · rw [z2c hj, List.getElem_append_left hj]; rfl
 · rw [z3u (by omega), List.getElem_append_right (by omega), List.getElem_replicate]; rfl
theorem mk_l {l : List V} {k n : Nat} (hn : n = l.length + k) : (Fr.mk l k n).l = l ++ z2g k .z := by
 unfold Fr.mk
 rw [bleR, bleR]
 split
 · rename_i h
   show (z2b (min n 64)).map _ = _
   rw [z5c h]
   exact zm8 hn fun i hi => ga_fill (by omega)
 · split
   · rename_i h
     show (z2b (min n 512)).map _ = _
     rw [z5c h]
     exact zm8 hn fun i hi => gb_fill (by omega)
   · show ze4 l (zsF k) = _
     rw [za4, zsF_eq]
noncomputable def Fr.of (l : List V) : Fr := Fr.mk l 0 (zc8 l)
theorem of_l (l : List V) : (Fr.of l).l = l := by
 unfold Fr.of
 rw [mk_l (by rw [za3]; rfl)]; simp
structure EF where
 e : Fr → V
structure QF where
 q : Fr → Mem → Option V
noncomputable def zfm (x : Operand) : EF :=
 match x with
 | .tmp i => ⟨(acc i).g⟩
 | .const v => ⟨fun _ => ofV v⟩
 | .func f => ⟨fun _ => .f f [] []⟩
 | .global _ => ⟨fun _ => .z⟩
theorem zbn (x : Operand) (t : Fr) : (zfm x).e t = evS t.l x := by cases x <;> simp only [zfm, evS, acc_g]
noncomputable def zxz (l : List Operand) : List EF := l.map zfm
noncomputable def evA (t : Fr) (l : List EF) : List V := zw2 (fun x => x.e t) l
theorem z1w (t : Fr) (l : List Operand) : evA t (zxz l) = l.map (evS t.l) := by
 unfold evA zxz
 rw [zgx, z3c]
 apply z5p
 intro x _
 exact zbn x t
noncomputable def kkF (k k' : IntKind) (r : Option V) : Option V := cond (z14 (zap k) (zap k')) r none
noncomputable def binIF (op : BinOp) (k k' : IntKind) (x y : Int) : Option V :=
 match op with
 | .add => kkF k k' (some (.u (.i k (zws k (addF x y)))))
 | .sub => kkF k k' (some (.u (.i k (zws k (subF x y)))))
 | .mul => kkF k k' (some (.u (.i k (zws k (x * y)))))
 | .eql => kkF k k' (some (.u (.b (eqF x y))))
 | .neq => kkF k k' (some (.u (.b (not (eqF x y)))))
 | .lss => kkF k k' (some (.u (.b (ltF x y))))
 | .leq => kkF k k' (some (.u (.b (leF x y))))
 | .gtr => kkF k k' (some (.u (.b (ltF y x))))
 | .geq => kkF k k' (some (.u (.b (leF y x))))
 | .shl => cond (leF (.ofNat 0) y) (some (.u (.i k (zws k (x * 2 ^ (min y.toNat k.bits)))))) none
 | .shr => cond (leF (.ofNat 0) y) (some (.u (.i k (x.fdiv (2 ^ (min y.toNat k.bits)))))) none
 | op => kkF k k' (absO (intE op k x y))
theorem binIF_eq (P : Program) (op : BinOp) (T : TypeId) (k k' : IntKind) (x y : Int) : binIF op k k' x y = absO (binE P op T (.int k x) (.int k' y)) := by
 have z : Int.ofNat 0 = 0 := rfl
 cases op <;> simp only [binIF, binE, kkF, intE, zui, subF_eq, wrapF_eq, eqF_eq, ltF_eq, z1d, z] <;>
  first
   | (cases z14 (zap k) (zap k') <;> rfl)
   | (cases decide ((0 : Int) ≤ y) <;> rfl)
noncomputable def binO (P : Program) (m : Mem) (op : BinOp) (T : TypeId) (a b : V) : Option V :=
 match zke P m T a b with
 | some _ => none
 | none => match arrE P T a b with
   | some c => absO (zya op c)
   | none => binSE P op T a b
noncomputable def binF (P : Program) (op : BinOp) (T : TypeId) (a b : V) (m : Mem) : Option V :=
 match a with
 | .u (.i k x) => (match b with
   | .u (.i k' y) => binIF op k k' x y
   | b => binO P m op T (.u (.i k x)) b)
 | a => binO P m op T a b
theorem arrE_u (P : Program) (T : TypeId) (u : U) (b : V) : arrE P T (.u u) b = none := by
 unfold arrE
 split <;> first | rfl | (rename_i h; cases h) | (rename_i h1 h2; cases h1)
theorem binF_eq (P : Program) (op : BinOp) (T : TypeId) (a b : V) (m : Mem) : binF P op T a b m = binO P m op T a b := by
 unfold binF
 split
 · split
   · rw [binIF_eq P op T, binO, arrE_u]
     dsimp only [zke]
     simp only [binSE, conc, zlv]
     cases binE P op T _ _ <;> rfl
   · rfl
 · rfl
noncomputable def cBin (P : Program) (op : BinOp) (T : TypeId) (x y : EF) : QF := ⟨fun t m => binF P op T (x.e t) (y.e t) m⟩
noncomputable def elF {α : Type} (l : List α) (k : Int) : Option α := Int.casesOn (motive := fun _ => Option α) k (fun i => zzp l i) (fun _ => none)
theorem zv6 {α : Type} (l : List α) (k : Int) : elF l k = elE l k := by cases k <;> simp only [elF, elE, zu4]
noncomputable def dUsF (zs : List (Value × Nat)) (l : List U) : Option (List U) :=
 List.rec (motive := fun _ => List U → Option (List U)) (fun _ => some []) (fun z _ ih l => List.casesOn (motive := fun _ => Option (List U)) l none (fun u l' => Option.casesOn (motive := fun _ => Option (List U)) (dUE z (some u)) none
  (fun u1 => Option.casesOn (motive := fun _ => Option (List U)) (ih l') none (fun us => some (u1 :: us))))) zs l
theorem dUE_none (z : Value × Nat) : dUE z none = none := by
 unfold dUE
 split <;> first | rfl | (rename_i h; cases h)
theorem zyt : ∀ (r : List U) (o : Nat), ug r o = (r.drop o).head?
 | [], o => by cases o <;> rfl
 | a :: r, 0 => rfl
 | a :: r, o + 1 => by simp only [ug, z59]; exact zyt r o
theorem dUsF_eq : ∀ (zs : List (Value × Nat)) (r : List U) (o : Nat), dUsF zs (zc9 o r) = dUsE zs r o := by
 intro zs r o
 rw [zg0]
 induction zs generalizing o with
 | nil => rfl
 | cons z zs ih =>
   simp only [dUsE, zyt]
   have ih' := ih (o + 1)
   cases hd : r.drop o with
   | nil => simp only [List.head?_nil, dUE_none]; rfl
   | cons u l' =>
     have : r.drop (o + 1) = l' := by rw [← z4x, hd]; rfl
     rw [this] at ih'
     rw [← ih']
     show Option.casesOn (motive := fun _ => Option (List U)) (dUE z (some u)) none (fun u1 => Option.casesOn (motive := fun _ => Option (List U)) (dUsF zs l') none (fun us => some (u1 :: us))) = _
     simp only [List.head?_cons]
     cases dUE z (some u) <;> cases dUsF zs l' <;> rfl
noncomputable def z09 (z : Value × Nat) (a : V) (m : Mem) : Option V :=
 match a with
 | .r b o => match zeu .x m b with
   | .c cells => match zhq o cells with
     | some (v :: _) => cond (zsp z v) (some v) none
     | _ => none
   | _ => none
 | .e b sz k o => match zeu .x m b with
   | .w _ sz' rows => cond (z14 sz sz') (match elF rows k with
     | some r => match dUE z (zzp r o) with
       | some u => some (.u u)
       | none => none
     | none => none) none
   | .cw _ sz' _ cells => cond (z14 sz sz') (match zhq (k.toNat * sz + o) cells with
     | some (v :: _) => cond (zsp z v) (some v) none
     | _ => none) none
   | _ => none
 | .q c o => match dUE z (zzp c o) with
   | some u => some (.u u)
   | none => none
 | a => zi1 z a m
theorem z08 (z : Value × Nat) (a : V) (m : Mem) : z09 z a m = zi1 z a m := by
 unfold z09
 split
 · simp only [zi1, zce, zca]; rfl
 · simp only [zi1, zce, zv6, zn7, zca]; rfl
 · simp only [zi1, zn7]; rfl
 · rfl
noncomputable def z06 (zs : List (Value × Nat)) (n : Nat) (a : V) (m : Mem) : Option V :=
 match a with
 | .r b o => match zeu .x m b with
   | .c cells => match zhq o cells with
     | some l => match zw5 n l with
       | some vs => cond (shL zs vs) (some (.a vs)) none
       | none => none
     | none => none
   | _ => none
 | .e b sz k o => match zeu .x m b with
   | .w _ sz' rows => cond (z14 sz sz') (match elF rows k with
     | some r => match dUsF zs (zc9 o r) with
       | some us => some (.a (zw2 .u us))
       | none => none
     | none => none) none
   | .cw _ sz' _ cells => cond (z14 sz sz') (match zhq (k.toNat * sz + o) cells with
     | some l => match zw5 n l with
       | some vs => cond (shL zs vs) (some (.a vs)) none
       | none => none
     | none => none) none
   | _ => none
 | .q c o => match dUsF zs (zc9 o c) with
   | some us => some (.a (zw2 .u us))
   | none => none
 | a => zi0 zs a m
theorem z05 (zs : List (Value × Nat)) (a : V) (m : Mem) : z06 zs (zc8 zs) a m = zi0 zs a m := by
 unfold z06
 split
 · simp only [zi0, zce, zca, zji, za3]; rfl
 · simp only [zi0, zce, zv6, dUsF_eq, zgx, zca, zji, za3]; rfl
 · simp only [zi0, dUsF_eq, zgx]; rfl
 · rfl
noncomputable def cLoad (P : Program) (T : TypeId) (a : EF) : QF :=
 match zoy P T with
 | some (.one z) => ⟨fun t m => z09 z (a.e t) m⟩
 | some (.many zs) => ⟨fun t m => z06 zs (zc8 zs) (a.e t) m⟩
 | none => ⟨fun _ _ => none⟩
theorem cLoad_eq (P : Program) (T : TypeId) (a : EF) (t : Fr) (m : Mem) : (cLoad P T a).q t m = zm4 P T (a.e t) m := by
 unfold cLoad zm4
 cases zoy P T with
 | none => rfl
 | some l => cases l <;> simp only [z08, z05]
noncomputable def ztg (x : V) (n : Nat) : Option V :=
 match x with
 | .r b o => some (.r b (cond (z14 n 0) o (Nat.add o n)))
 | .e b sz k o => some (.e b sz k (cond (z14 n 0) o (Nat.add o n)))
 | .q c o => some (.q c (cond (z14 n 0) o (Nat.add o n)))
 | .u (.p (some c)) => some (.q c n)
 | _ => none
theorem zw3 (x : V) (n : Nat) : ztg x n = zj7 x n := by
 unfold ztg
 split <;> first | rfl | skip
 rename_i h1 h2 h3 h4
 unfold zj7
 split <;> first | rfl | (exact (h1 _ _ rfl).elim) | (exact (h2 _ _ _ _ rfl).elim) | (exact (h3 _ _ rfl).elim) | (exact (h4 _ rfl).elim)
noncomputable def cFA (P : Program) (T : TypeId) (x : EF) (f : Nat) : QF :=
 match P.underlying T with
 | some (.struct fs) => match fs[f]? with
   | some fd => cond (z14 (zaj P fd.type) 0) ⟨fun _ _ => none⟩ ⟨fun t _ => ztg (x.e t) fd.offset⟩
   | none => ⟨fun _ _ => none⟩
 | _ => ⟨fun _ _ => none⟩
theorem q_cond (c : Bool) (f g : Fr → Mem → Option V) (t : Fr) (m : Mem) : (cond c (QF.mk f) (QF.mk g)).q t m = cond c (f t m) (g t m) := by cases c <;> rfl
noncomputable def inB (i : Int) (n : Nat) : Bool := zsq (leF (.ofNat 0) i) (ltF i (.ofNat n))
theorem inB_eq (i : Int) (n : Nat) : inB i n = (decide (0 ≤ i) && decide (i < n)) := by
 simp only [inB, zin, z1d, ltF_eq]; rfl
noncomputable def iaSl (s0 : Nat) (i : Int) (x : V) (m : Mem) : Option V :=
 match x with
 | .u (.l s rows) => cond (zsq (z14 s s0) (not (z14 s 0))) (match elF rows i with | some r => some (.q r 0) | none => none) none
 | .c s rows => cond (zsq (z14 s s0) (not (z14 s 0))) (match elF rows i with | some r => some (.q r 0) | none => none) none
 | .w b => match zeu .x m b with
   | .w _ sz rows => cond (zsq (z14 sz s0) (not (z14 sz 0))) (cond (inB i (zc8 rows)) (some (.e b sz i 0)) none) none
   | .cw _ sz n _ => cond (zsq (z14 sz s0) (not (z14 sz 0))) (cond (inB i n) (some (.e b sz i 0)) none) none
   | _ => none
 | .v b sz l n _ => cond (zsq (z14 sz s0) (not (z14 sz 0))) (cond (inB i n) (some (.e b sz (addF (.ofNat l) i) 0)) none) none
 | .sl b o n => cond (z14 s0 0) none (match i with
   | .ofNat j => cond (z19 (Nat.succ j) n) (some (.r b (Nat.add o (Nat.mul j s0)))) none
   | .negSucc _ => none)
 | _ => none
noncomputable def iaAr (n s0 : Nat) (i : Int) (x : V) (m : Mem) : Option V :=
 match x with
 | .r b o => match zeu .x m b with
   | .c cells => match zhq o cells with
     | some (.n _ w _ :: _) => cond (zsq (z14 w n) (z14 s0 1)) (cond (inB i n) (some (.g b o w i)) none) none
     | some _ => match i with
       | .ofNat j => cond (z19 (Nat.succ j) n) (cond (z14 s0 0) none (some (.r b (Nat.add o (Nat.mul j s0))))) none
       | .negSucc _ => none
     | none => none
   | _ => none
 | .q c o => cond (z14 s0 0) none (match i with
   | .ofNat j => cond (z19 (Nat.succ j) n) (some (.q c (Nat.add o (Nat.mul j s0)))) none
   | .negSucc _ => none)
 | .e b sz k o => cond (z14 s0 0) none (match i with
   | .ofNat j => cond (z19 (Nat.succ j) n) (some (.e b sz k (Nat.add o (Nat.mul j s0)))) none
   | .negSucc _ => none)
 | _ => none
noncomputable def onI (i : V) (f : Int → Option V) : Option V :=
 match i with
 | .u (.i _ i) => f i
 | _ => none
noncomputable def cIA (P : Program) (T : TypeId) (x i : EF) : QF :=
 match P.underlying T with
 | some (.slice e) => ⟨fun t m => onI (i.e t) fun i => iaSl (zaj P e) i (x.e t) m⟩
 | some (.array n e) => ⟨fun t m => onI (i.e t) fun i => iaAr n (zaj P e) i (x.e t) m⟩
 | _ => ⟨fun _ _ => none⟩
noncomputable def cField (P : Program) (T : TypeId) (x : EF) (f : Nat) : QF :=
 match P.underlying T with
 | some (.struct fs) => match fs[f]? with
   | some fd => match zoy P fd.type with
     | some (.one z) => ⟨fun t _ => match x.e t with
       | .a l => match zhq fd.offset l with
         | some (v :: _) => cond (zsp z v) (some v) none
         | _ => none
       | _ => none⟩
     | some (.many zs) => ⟨fun t _ => match x.e t with
       | .a l => match zhq fd.offset l with
         | some l => match zw5 (zc8 zs) l with
           | some vs => some (.a vs)
           | none => none
         | none => none
       | _ => none⟩
     | none => ⟨fun _ _ => none⟩
   | none => ⟨fun _ _ => none⟩
 | _ => ⟨fun _ _ => none⟩
noncomputable def nilF (x : V) : Option V :=
 match x with
 | .u (.p (some c)) => some (.q c 0)
 | .f g a c => some (.f g a c)
 | x => cond (zi7 x) (some x) none
noncomputable def extF (x : V) (i : Nat) : Option V :=
 match x with
 | .t l => cond (z19 (Nat.succ i) (zc8 l)) (some (zeu .z l i)) none
 | _ => none
noncomputable def cQ (P : Program) (o : Oper) : QF :=
 match o.op with
 | .move x => ⟨fun t _ => some ((zfm x).e t)⟩
 | .assign x => ⟨fun t _ => some ((zfm x).e t)⟩
 | .pick c a b => ⟨fun t _ => pickE ((zfm c).e t) ((zfm a).e t) ((zfm b).e t)⟩
 | .nilCheck x => ⟨fun t _ => nilF ((zfm x).e t)⟩
 | .binOp op T x y _ => cBin P op T (zfm x) (zfm y)
 | .load T a => cLoad P T (zfm a)
 | .fieldAddr T x f => cFA P T (zfm x) f
 | .field T x f => cField P T (zfm x) f
 | .indexAddr T x i => cIA P T (zfm x) (zfm i)
 | .extract x i => ⟨fun t _ => extF ((zfm x).e t) i⟩
 | _ => ⟨fun t m => ze6 P t.l m o⟩
theorem cQ_eq (P : Program) (o : Oper) (t : Fr) (m : Mem) : (cQ P o).q t m = ze6 P t.l m o := by
 obtain ⟨dst, op, ty, pos, after, guard⟩ := o
 cases op <;> simp only [cQ, ze6, zbn] <;> try rfl
 case binOp op' S x y yt =>
  show binF P op' S ((zfm x).e t) ((zfm y).e t) m = _
  rw [binF_eq, zbn, zbn]; rfl
 case load S a => rw [cLoad_eq, zbn]
 case fieldAddr S x f =>
  unfold cFA
  cases hu : P.underlying S with
  | none => rfl
  | some d =>
    cases d <;> dsimp only <;> try rfl
    rename_i fs
    cases hf : fs[f]? with
    | none => rfl
    | some fd => dsimp only; rw [q_cond]; simp only [zw3, zbn]
 case field S x f =>
  unfold cField
  cases hu : P.underlying S with
  | none => rfl
  | some d =>
    cases d <;> dsimp only <;> try rfl
    rename_i fs
    cases hf : fs[f]? with
    | none => dsimp only; cases evS t.l x <;> first | rfl | simp only [hf]
    | some fd =>
      dsimp only
      cases hl : zoy P fd.type with
      | none => dsimp only; cases evS t.l x <;> first | rfl | simp only [hf, hl]
      | some l =>
        cases l <;> simp only [zbn, zca, zji, za3] <;> cases evS t.l x <;> try rfl
        all_goals
         rename_i l
         simp only [hf, hl]
         rcases zbu fd.offset l with _ | (_ | ⟨_, _⟩) <;> rfl
 case indexAddr S x i =>
  unfold cIA
  cases hu : P.underlying S with
  | none => dsimp only; cases evS t.l i <;> try rfl
            rename_i u; cases u <;> rfl
  | some d =>
    cases d
    case slice e =>
     simp only [zbn, onI]
     cases evS t.l i <;> try rfl
     rename_i u
     cases u <;> try rfl
     simp only [iaSl, zin, zv6, inB_eq, za3, zce, zui]
     cases evS t.l x
     case u u => cases u <;> rfl
     case nl s =>
      rename_i nn
      simp only [asD]
      cases nn <;> (simp only [elE, List.getElem?_nil]; cases (z14 s (zaj P e) && !z14 s 0) <;> rfl)
     all_goals rfl
    case array n e =>
     simp only [zbn, onI]
     cases evS t.l i <;> try rfl
     rename_i u
     cases u <;> try rfl
     simp only [iaAr, zin, inB_eq, zce, zca]
     cases evS t.l x <;> rfl
    all_goals
     first | done | (cases evS t.l i <;> (try rfl) <;> (rename_i u; cases u <;> rfl))
 case extract x i =>
  unfold extF
  simp only [za3, zdt]; rfl
noncomputable def binsF (P : Program) (op : BinOp) (T : TypeId) (a b : V) (m : Mem) : Option (List V) :=
 match b with
 | .nl s => (match zke P m T a (.nl s) with
   | some r => nilsE op r
   | none => zw6 (binF P op T a (.nl s) m))
 | b => zw6 (binF P op T a b m)
theorem zwp (P : Program) (op : BinOp) (T : TypeId) (x y : Operand) (yt : TypeId) (t : Fr) (m : Mem) {dst : Option Tmp} {ty : TypeId} {pos : String} {after : Array Edge} {guard : Option (Nat × Bool)} :
 binsF P op T ((zfm x).e t) ((zfm y).e t) m = zh6 P t.l m ⟨dst, .binOp op T x y yt, ty, pos, after, guard⟩ := by
 rw [zbn, zbn]
 unfold zh6
 dsimp only
 have hq : ze6 P t.l m ⟨dst, .binOp op T x y yt, ty, pos, after, guard⟩ = binF P op T (evS t.l x) (evS t.l y) m := by
  rw [binF_eq]; unfold ze6 binO; rfl
 rw [hq]
 unfold binsF
 split
 · rename_i s hs
   rw [hs]
   cases zke P m T (evS t.l x) (.nl s) with
   | some r => rfl
   | none => dsimp only; cases binF P op T (evS t.l x) (.nl s) m <;> rfl
 · rename_i b hb
   have : zke P m T (evS t.l x) (evS t.l y) = none := by
    unfold zke
    split
    · rename_i s hs; exact (hb s hs).elim
    · rfl
   rw [this]
   dsimp only
   cases binF P op T (evS t.l x) (evS t.l y) m <;> rfl
theorem zq8 (m : Mem) (b : Nat) (a : AB) : ms m b a = m.set b a := by rw [← zzl, zgf]
structure XF where
 r : List Nat → Fr → Mem → Option (V × Mem)
noncomputable def storeF (P : Program) (zs : List (Value × Nat)) (T : TypeId) (ro : List Nat) (a x : V) (m : Mem) : Option Mem :=
 match zdc P T x with
 | some xs => cond (zsq (shL zs xs) (zmu P T (zcn P T x))) (match a with
   | .r b o => cond (inR ro b) none (match zeu .x m b with
     | .c cells => match putR xs o cells with
       | some l => some (zma m b (.c l))
       | none => none
     | _ => none)
   | .g b o w k => cond (inR ro b) none (match zeu .x m b, xs with
     | .c cells, [.u (.i .i64 y)] => match zhq o cells with
       | some (.n k' w' l :: _) => cond (zsq (z14 w w') (z14 (zap k') 3)) (match putR [.n .i64 w (zma l k.toNat y)] o cells with
         | some l => some (zma m b (.c l))
         | none => none) none
       | _ => none
     | _, _ => none)
   | .e b sz k o => cond (inR ro b) none (match zeu .x m b with
     | .cw E sz' n cells => cond (z14 sz sz') (match putR xs (k.toNat * sz + o) cells with
       | some l => some (zma m b (.cw E sz n l))
       | none => none) none
     | .w E sz' rows => cond (zmp m xs) (cond (z14 sz sz') (match putR xs (k.toNat * sz + o) (rows.flatten.map V.u) with
      | some l => some (zma m b (.cw E sz rows.length l))
      | none => none) none) (match toUs ro m xs with
      | some (us, m1) => match zeu .x m1 b with
        | .w E sz' rows => cond (z14 sz sz') (cond (zsq (z14 o 0) (z14 (zc8 us) sz)) (some (zma m1 b (.w E sz (zma rows k.toNat us))))
         (cond (z19 (o + us.length) sz) (match elF rows k with
          | some r => some (zma m1 b (.w E sz (zma rows k.toNat (usp r o us))))
          | none => none) none)) none
        | _ => none
      | none => none)
     | _ => none)
   | _ => none) none
 | none => none
noncomputable def cStore (P : Program) (T : TypeId) (a x : EF) : XF :=
 match za9 P T with
 | some zs => ⟨fun ro t m => zss .z (storeF P zs T ro (a.e t) (x.e t) m)⟩
 | none => ⟨fun _ _ _ => none⟩
theorem cStore_eq (P : Program) (T : TypeId) (a x : EF) (ro : List Nat) (t : Fr) (m : Mem) : (cStore P T a x).r ro t m = zss .z (zj2 P ro T (a.e t) (x.e t) m) := by
 unfold cStore zj2
 cases za9 P T with
 | none => rfl
 | some zs =>
   dsimp only
   unfold storeF
   cases zdc P T (x.e t) with
   | none => rfl
   | some xs =>
     dsimp only
     simp only [zin, zrm, zce, zz5, zca, zq8, zgf, za3, zv6]
     rfl
noncomputable def appF (P : Program) (s0 : Nat) (e : TypeId) (ro : List Nat) (x y : V) (m : Mem) : Option (V × Mem) :=
 match y with
  | .nl _ => (match x with
    | .nl s => some (.nl s, m)
    | .u (.l s r) => some (.u (.l s r), m)
    | .c s r => some (.c s r, m)
    | .v b sz l n c => some (.v b sz l n c, m)
    | _ => none)
  | y => (match srcS m y with
    | some (s, new) => cond (z14 s s0) (match x with
      | .nl _ => cond (z19 (Nat.add 0 (zc8 new)) 1000000) (some (.w (zc8 m), ze4 m [.w e s new])) none
      | .w b => cond (inR ro b) none (match zeu .x m b with
        | .w e' s' rows => cond (zsq (z14 e e') (z14 s s')) (cond (z19 (Nat.add (zc8 rows) (zc8 new)) 1000000) (some (.w (zc8 m), ze4 (zma m b .x) [.w e s (ze4 rows new)])) none) none
        | _ => none)
      | .c s' rows => cond (z14 s s') (cond (z19 (Nat.add (zc8 rows) (zc8 new)) 1000000) (match new with
        | _ :: _ => some (.w (zc8 m), ze4 m [.w e s (ze4 rows new)])
        | [] => some (.c s rows, m)) none) none
      | .v b s' l n c => cond (z14 s s') (match zeu .x m b with
        | .w e' s2 rows => cond (zsq (z14 e e') (z14 s2 s)) (match new with
          | [] => some (.v b s' l n c, m)
          | _ :: _ => cond c (cond (z19 (Nat.add (zc8 (zw1 n (zc9 l rows))) (zc8 new)) 1000000) (some (.w (zc8 m), ze4 m [.w e s (ze4 (zw1 n (zc9 l rows)) new)])) none)
            (cond (zsq (z14 l 0) (not (inR ro b))) (cond (z19 (Nat.add (zc8 (zw1 n rows)) (zc8 new)) 1000000) (some (.w (zc8 m), ze4 (zma m b .x) [.w e s (ze4 (zw1 n rows) new)])) none) none)) none
        | _ => none) none
      | _ => none) none
    | none => appCE P ro e x y m)
noncomputable def cApp (P : Program) (T : TypeId) (x y : EF) : XF :=
 match P.underlying T with
 | some (.slice e) => cond (zo7 P T e (zaj P e)) ⟨fun ro t m => appF P (zaj P e) e ro (x.e t) (y.e t) m⟩ ⟨fun _ _ _ => none⟩
 | _ => ⟨fun _ _ _ => none⟩
theorem cApp_eq (P : Program) (T : TypeId) (x y : EF) (ro : List Nat) (t : Fr) (m : Mem) : (cApp P T x y).r ro t m = appE P ro T (x.e t) (y.e t) m := by
 unfold cApp appE
 cases P.underlying T with
 | none => rfl
 | some d =>
   cases d <;> try rfl
   rename_i e
   dsimp only
   cases zo7 P T e (zaj P e)
   · rfl
   · simp only [cond_true]
     unfold appF
     simp only [zin, zrm, zce, zgf, zq8, za3, za4, apB, zn5, zg0]
     rfl
noncomputable def cD (P : Program) (o : Oper) : XF :=
 match o.op with
 | .store T a x => cStore P T (zfm a) (zfm x)
 | .box T x => (match bdE P T with
   | none => ⟨fun _ t m => match zdc P T ((zfm x).e t) with
     | some xs => some (.r (zc8 m) 0, ze4 m [.c xs])
     | none => none⟩
   | some e => ⟨fun _ t m => match zdc P T ((zfm x).e t) with
     | some xs => some (.r (zc8 m) 0, ze4 m [boxB T e xs])
     | none => none⟩)
 | .alloc T => match (P.info? T).bind (·.zero) with
   | some z => ⟨fun _ _ m => some (.r (zc8 m) 0, ze4 m [newA P T z])⟩
   | none => ⟨fun _ _ _ => none⟩
 | .call c => match c.callee with
   | .builtin .append => match c.args.toList, c.argTypes.toList with
     | [x, y], [T, T'] => cond (z14 T T') (cApp P T (zfm x) (zfm y)) ⟨fun _ _ _ => none⟩
     | _, _ => ⟨fun _ _ _ => none⟩
   | _ => ⟨fun ro t m => effD P ro t.l m o⟩
 | _ => ⟨fun ro t m => effD P ro t.l m o⟩
theorem r_cond (c : Bool) (f g : XF) (ro : List Nat) (t : Fr) (m : Mem) : (cond c f g).r ro t m = cond c (f.r ro t m) (g.r ro t m) := by cases c <;> rfl
theorem cD_eq (P : Program) (o : Oper) (ro : List Nat) (t : Fr) (m : Mem) : (cD P o).r ro t m = effD P ro t.l m o := by
 obtain ⟨dst, op, ty, pos, after, guard⟩ := o
 cases op <;> simp only [cD, effD] <;> try rfl
 case store S a x => rw [cStore_eq, zbn, zbn]
 case box S x =>
  cases bdE P S with
  | none => simp only [zbn, za3, za4]; rfl
  | some e => simp only [zbn, za3, za4]; rfl
 case alloc S =>
  cases (P.info? S).bind (·.zero) with
  | none => rfl
  | some z => simp only [za3, za4]
 case call c =>
  obtain ⟨callee, args, argTypes⟩ := c
  cases callee <;> try rfl
  rename_i b
  cases b <;> try rfl
  dsimp only
  rcases args.toList with _ | ⟨x, _ | ⟨y, _ | ⟨z, l⟩⟩⟩ <;> try rfl
  rcases argTypes.toList with _ | ⟨T, _ | ⟨T', _ | ⟨z, l⟩⟩⟩ <;> try rfl
  dsimp only
  rw [r_cond, cApp_eq, zbn, zbn]
noncomputable def consR (v : V) (acc : List Nat) : List Nat :=
 match v with
 | .u _ => acc
 | .z => acc
 | .r b _ => b :: acc
 | .w b => b :: acc
 | .q _ _ => acc
 | .nl _ => acc
 | .n _ _ _ => acc
 | .c _ _ => acc
 | v => ze4 (zae v) acc
theorem consR_eq (v : V) (acc : List Nat) : consR v acc = zae v ++ acc := by
 unfold consR
 split <;> first | (simp only [zae, z3f, z3r]; done) | (rw [za4])
noncomputable def zm6 (l : List V) : List Nat := List.rec (motive := fun _ => List Nat) [] (fun v _ ih => consR v ih) l
theorem zgy : ∀ l : List V, zm6 l = zam l
 | [] => by simp only [zam]; rfl
 | v :: l => by simp only [zam]; rw [← zgy l, ← consR_eq]; rfl
noncomputable def zm7 (a : AB) : List Nat :=
 match a with
 | .c l => zm6 l
 | .cw _ _ _ l => zm6 l
 | _ => []
theorem zqn (a : AB) : zm7 a = za5 a := by cases a <;> simp only [zm7, za5, zgy]
noncomputable def cloF (m : Mem) (n : Nat) (l acc : List Nat) : List Nat :=
 Nat.rec (motive := fun _ => List Nat → List Nat → List Nat) (fun _ acc => acc)
  (fun _ ih l acc => List.casesOn (motive := fun _ => List Nat) l acc (fun b todo => cond (inR acc b) (ih todo acc) (ih (ze4 (zm7 (zeu .x m b)) todo) (ze4 acc [b])))) n l acc
theorem zt6 (m : Mem) : ∀ (n : Nat) (l acc : List Nat), cloF m n l acc = clo m n l acc
 | 0, l, acc => by cases l <;> rfl
 | n + 1, [], acc => rfl
 | n + 1, b :: todo, acc => by
   simp only [clo]
   rw [← zt6 m n, ← zt6 m n, ← zrm, ← zqn, ← zce, ← za4, ← za4]; rfl
noncomputable def posF (l : List Nat) (b : Nat) : Nat := List.rec (motive := fun _ => Nat → Nat) (fun k => k) (fun x _ ih k => cond (z14 x b) k (ih (Nat.succ k))) l 0
theorem z0b (b : Nat) : ∀ (l : List Nat) (k : Nat), List.rec (motive := fun _ => Nat → Nat) (fun k => k) (fun x _ ih k => cond (z14 x b) k (ih (Nat.succ k))) l k = zh9 l b k
 | [], k => rfl
 | x :: l, k => by simp only [zh9]; rw [← z0b b l (k + 1)]
theorem posF_eq (l : List Nat) (b : Nat) : posF l b = zh9 l b 0 := z0b b l 0
noncomputable def renF (f : Nat → Nat) (v : V) : V :=
 match v with
 | .u x => .u x
 | .z => .z
 | .r b o => .r (f b) o
 | .w b => .w (f b)
 | .q c o => .q c o
 | .nl s => .nl s
 | .n k w l => .n k w l
 | .c s r => .c s r
 | v => zcf f v
theorem zzy (f : Nat → Nat) (v : V) : renF f v = zcf f v := by
 unfold renF
 split <;> first | (simp only [zcf]; done) | rfl
noncomputable def renLF (f : Nat → Nat) (l : List V) : List V := zw2 (renF f) l
theorem zoa (f : Nat → Nat) : ∀ l : List V, renLF f l = zd8 f l
 | [] => by simp only [zd8]; rfl
 | v :: l => by simp only [zd8]; rw [← zoa f l, ← zzy]; rfl
noncomputable def zz0 (f : Nat → Nat) (a : AB) : AB :=
 match a with
 | .c l => .c (renLF f l)
 | .cw E s n l => .cw E s n (renLF f l)
 | a => a
theorem renAF_eq (f : Nat → Nat) (a : AB) : zz0 f a = zob f a := by cases a <;> simp only [zz0, zob, zoa]
noncomputable def zsi (ix l : List Nat) : Bool := List.rec (motive := fun _ => Bool) true (fun b _ ih => cond (inR ix b) ih false) l
theorem zsh (ix : List Nat) : ∀ l : List Nat, zsi ix l = zd5 ix l
 | [] => rfl
 | b :: l => by
   simp only [zd5]; rw [← zsh ix l, ← zrm]
   show cond (inR ix b) (zsi ix l) false = _
   cases inR ix b <;> rfl
noncomputable def belowF (n : Nat) (l : List Nat) : Bool := List.rec (motive := fun _ => Bool) true (fun b _ ih => cond (z19 (Nat.succ b) n) ih false) l
theorem zse (n : Nat) : ∀ l : List Nat, belowF n l = zgo n l
 | [] => rfl
 | b :: l => by
   simp only [zgo]; rw [← zse n l]
   show cond (z19 (b + 1) n) (belowF n l) false = _
   cases z19 (b + 1) n <;> rfl
noncomputable def fmF {α β : Type} (f : α → List β) (l : List α) : List β := List.rec (motive := fun _ => List β) [] (fun a _ ih => ze4 (f a) ih) l
theorem fmF_eq {α β : Type} (f : α → List β) : ∀ l : List α, fmF f l = l.flatMap f
 | [] => rfl
 | a :: l => by rw [z52, ← fmF_eq f l, ← za4]; rfl
noncomputable def zhk {α : Type} (n : Nat) (K : Nat → α) : α := Nat.rec (motive := fun _ => α) (K 0) (fun k _ => K (Nat.succ k)) n
theorem zrs {α : Type} (n : Nat) (K : Nat → α) : zhk n K = K n := by cases n <;> rfl
noncomputable def renK {α : Type} (f : Nat → Nat) (v : V) (K : V → α) : α :=
 match v with
 | .u x => K (.u x)
 | .z => K .z
 | .r b o => zhk (f b) fun b => K (.r b o)
 | .w b => zhk (f b) fun b => K (.w b)
 | .q c o => K (.q c o)
 | .nl s => K (.nl s)
 | .n k w l => K (.n k w l)
 | .c s r => K (.c s r)
 | .e b s k o => zhk (f b) fun b => K (.e b s k o)
 | .v b s l n c => zhk (f b) fun b => K (.v b s l n c)
 | .sl b o n => zhk (f b) fun b => K (.sl b o n)
 | .m b => zhk (f b) fun b => K (.m b)
 | v => K (zcf f v)
theorem renK_eq {α : Type} (f : Nat → Nat) (v : V) (K : V → α) : renK f v K = K (renF f v) := by
 cases v <;> simp only [renK, zzy, zcf, zrs]
noncomputable def zzx {α : Type} (f : Nat → Nat) (l : List V) (K : List V → α) : α :=
 List.rec (motive := fun _ => (List V → α) → α) (fun K => K []) (fun v _ ih K => renK f v fun v => ih fun r => K (v :: r)) l K
theorem zn9 {α : Type} (f : Nat → Nat) : ∀ (l : List V) (K : List V → α), zzx f l K = K (renLF f l)
 | [], K => rfl
 | v :: l, K => by
   show renK f v (fun v => zzx f l fun r => K (v :: r)) = _
   rw [renK_eq, zn9 f l]; rfl
noncomputable def renAK {α : Type} (f : Nat → Nat) (a : AB) (K : AB → α) : α :=
 match a with
 | .c l => zzx f l fun l => K (.c l)
 | .cw E s n l => zzx f l fun l => K (.cw E s n l)
 | .w E sz rows => K (.w E sz rows)
 | .o I => K (.o I)
 | .p kt sz ag rows => K (.p kt sz ag rows)
 | .tk => K .tk
 | .x => K .x
theorem renAK_eq {α : Type} (f : Nat → Nat) (a : AB) (K : AB → α) : renAK f a K = K (zz0 f a) := by
 cases a <;> simp only [renAK, zz0, zn9]
noncomputable def subK {α : Type} (f : Nat → Nat) (m : Mem) (ix : List Nat) (K : Mem → α) : α :=
 List.rec (motive := fun _ => (Mem → α) → α) (fun K => K []) (fun b _ ih K => renAK f (zeu .x m b) fun a => ih fun r => K (a :: r)) ix K
theorem zy1 {α : Type} (f : Nat → Nat) (m : Mem) : ∀ (ix : List Nat) (K : Mem → α), subK f m ix K = K (zw2 (fun b => zz0 f (zeu .x m b)) ix)
 | [], K => rfl
 | b :: ix, K => by
   show renAK f (zeu .x m b) (fun a => subK f m ix fun r => K (a :: r)) = _
   rw [renAK_eq, zy1 f m ix]; rfl
noncomputable def z1r {α : Type} (l : List Nat) (K : List Nat → α) : α :=
 List.rec (motive := fun _ => (List Nat → α) → α) (fun K => K []) (fun b _ ih K => zhk b fun b => ih fun r => K (b :: r)) l K
theorem zrt {α : Type} : ∀ (l : List Nat) (K : List Nat → α), z1r l K = K l
 | [], K => rfl
 | b :: l, K => by
   show zhk b (fun b => z1r l fun r => K (b :: r)) = _
   rw [zrs, zrt l]
noncomputable def canonF1 (t : List V) (m : Mem) (ix : List Nat) : Option (List V × Mem) :=
 cond (zsq (zsi ix (zm6 t)) (zsq (zsi ix (fmF (fun b => zm7 (zeu .x m b)) ix)) (belowF (zc8 m) ix))) (zzx (posF ix) t fun t => subK (posF ix) m ix fun m => some (t, m)) none
noncomputable def zsb (n : Nat) (t : List V) (m : Mem) : Option (List V × Mem) :=
 cond (z19 (zc8 m) (Nat.succ n)) (some (t, m)) (z1r (cloF m 1000 (ze4 (zm6 t) (fmF zm7 (zw1 n m))) (z2b n)) fun ix => canonF1 t m ix)
theorem canonF_eq (n : Nat) (t : List V) (m : Mem) : zsb n t m = canonE n t m := by
 have h1 : (zm7 : AB → List Nat) = za5 := funext zqn
 have h2 : ∀ ix : List Nat, posF ix = fun b => zh9 ix b 0 := fun ix => funext (posF_eq ix)
 have h3 : ∀ ix : List Nat, zsi ix = zd5 ix := fun ix => funext (zsh ix)
 unfold zsb canonE
 rw [zrt]
 unfold canonF1 canonE.canE
 simp only [zn9, zy1]
 simp only [za3, zt6, za4, zgy, fmF_eq, h1, zn5, zin, h3, zse, zoa, h2, zgx, renAF_eq, zce, zm2, Bool.and_assoc]
abbrev Outs := List (List V × Mem)
theorem zsa {n : Nat} {t : List V} {m : Mem} {r : List V × Mem} {K : List V → Mem → Prop} (h : zsb n t m = some r) (hK : K r.1 r.2) : zdh n K t m := zsc (by rw [← canonF_eq]; exact h) hK
def zwj (n : Nat) : Outs → Option Outs
 | [] => some []
 | x :: l => match canonE n x.1 x.2, zwj n l with
   | some a, some b => some (a :: b)
   | _, _ => none
theorem zr7 {n : Nat} : ∀ {l r : Outs}, zwj n l = some r → ∀ x ∈ l, ∃ y ∈ r, canonE n x.1 x.2 = some y
 | [], r, h, x, hx => by cases hx
 | x :: l, r, h, y, hy => by
   simp only [zwj] at h
   split at h
   · rename_i a b h1 h2
     cases h
     rcases z2e.1 hy with rfl | hy
     · exact ⟨a, by simp, h1⟩
     · obtain ⟨z, hz, h3⟩ := zr7 h2 y hy
       exact ⟨z, by simp [hz], h3⟩
   · cases h
def alike (l : Outs) : Outs :=
 match l with
 | [] => []
 | x :: r => cond (r.all fun y => zww x.1 y.1 && eqM x.2 y.2) [x] (x :: r)
theorem alike_ok {l : Outs} : ∀ x ∈ l, x ∈ alike l := by
 intro x hx
 cases l with
 | nil => cases hx
 | cons y r =>
   unfold alike
   dsimp only
   cases h : (r.all fun z => zww y.1 z.1 && eqM y.2 z.2) with
   | false => exact hx
   | true =>
     simp only [cond_true]
     rcases z2e.1 hx with rfl | hx
     · simp
     · have := z29.1 h x hx
       simp only [z17] at this
       have : x = y := Prod.ext (ze0 _ _ this.1).symm (z1y this.2).symm
       simp [this]
abbrev zh1 := List (Fr × Mem)
noncomputable abbrev frL (x : Fr × Mem) : List V × Mem := (x.1.l, x.2)
noncomputable def ofL (l : Outs) : zh1 := l.map fun x => (Fr.of x.1, x.2)
theorem mem_ofL {l : Outs} {y : List V × Mem} (h : y ∈ l) : ∃ x ∈ ofL l, frL x = y := ⟨(Fr.of y.1, y.2), z20.2 ⟨y, h, rfl⟩, by simp only [frL, of_l]⟩
noncomputable def zr9 (n : Nat) (t : Fr) (m : Mem) : Option (Fr × Mem) :=
 Bool.rec (motive := fun _ => Option (Fr × Mem)) (match zsb n t.l m with
  | some (l, m2) => some (Fr.of l, m2)
  | none => none) (some (t, m)) (z19 (zc8 m) (Nat.succ n))
theorem zr8 {n : Nat} {t : Fr} {m : Mem} {r : Fr × Mem} {K : List V → Mem → Prop} (h : zr9 n t m = some r) (hK : K r.1.l r.2) : zdh n K t.l m := by
 unfold zr9 at h
 rw [bleR] at h
 split at h
 · rename_i hb
   cases h
   unfold zdh
   rw [za3] at hb
   rw [z32 hb]
   exact hK
 · split at h
   · rename_i l m2 hc
     cases h
     rw [of_l] at hK
     exact zsa hc hK
   · cases h
noncomputable def agreeF (n : Nat) (l : zh1) : Option zh1 :=
 match l with
 | [x] => zw6 (zr9 n x.1 x.2)
 | l => match zwj n (l.map frL) with
   | some r => some (ofL (alike r))
   | none => none
theorem agreeF_ok {n : Nat} {l r : zh1} {K : List V → Mem → Prop} (h : agreeF n l = some r) (hK : ∀ x ∈ r, K x.1.l x.2) : ∀ x ∈ l, zdh n K x.1.l x.2 := by
 intro x hx
 unfold agreeF at h
 split at h
 · obtain ⟨y, h1, rfl⟩ := zha h
   have := z3v.1 hx
   subst this
   exact zr8 h1 (hK y (by simp))
 · split at h
   · rename_i r' h1
     cases h
     obtain ⟨y, hy, h2⟩ := zr7 h1 (frL x) (z20.2 ⟨x, hx, rfl⟩)
     obtain ⟨z, hz, rfl⟩ := mem_ofL (alike_ok y hy)
     exact zsc h2 (hK z hz)
   · cases h
noncomputable def bindO {α β : Type} (l : List α) (f : α → Option (List β)) : Option (List β) :=
 List.rec (motive := fun _ => Option (List β)) (some []) (fun x r ih => List.casesOn (motive := fun _ => Option (List β)) r (f x) (fun _ _ => match f x, ih with
  | some a, some b => some (ze4 a b)
  | _, _ => none)) l
theorem zpk {α β : Type} {f : α → Option (List β)} : ∀ {l : List α} {r : List β}, bindO l f = some r → ∀ x ∈ l, ∃ a, f x = some a ∧ ∀ y ∈ a, y ∈ r
 | [], r, h, x, hx => by cases hx
 | [y], r, h, x, hx => by
   have := z3v.1 hx
   subst this
   exact ⟨r, h, fun y hy => hy⟩
 | y :: z :: l, r, h, x, hx => by
   have h : (match f y, bindO (z :: l) f with | some a, some b => some (ze4 a b) | _, _ => none) = some r := h
   split at h
   · rename_i a b h1 h2
     cases h
     rw [za4]
     rcases z2e.1 hx with rfl | hx
     · exact ⟨a, h1, fun u hu => by simp [hu]⟩
     · obtain ⟨c, h3, h4⟩ := zpk h2 x hx
       exact ⟨c, h3, fun u hu => by simp [h4 u hu]⟩
   · cases h
noncomputable def zes {α β : Type} (o : Option (List α)) (f : α → Option (List β)) : Option (List β) :=
 match o with
 | some l => bindO l f
 | none => none
theorem za6 {α β : Type} {o : Option (List α)} {f : α → Option (List β)} {r : List β} (h : zes o f = some r) : ∃ l, o = some l ∧ ∀ x ∈ l, ∃ a, f x = some a ∧ ∀ y ∈ a, y ∈ r := by
 cases o with
 | none => cases h
 | some l => exact ⟨l, rfl, zpk h⟩
structure GF where
 g : Fr → Option (Bool × Fr)
noncomputable def cG (ops : List Oper) (o : Oper) : GF :=
 match zcy ops o with
 | none => ⟨fun t => some (true, t)⟩
 | some (none, _) => ⟨fun t => some (false, t)⟩
 | some (some d, want) => ⟨fun t => match (acc d).g t with
   | .u (.b c) => some (cond c want (not want), (acc d).s t (.u (.b c)))
   | .t [] => some (false, t)
   | _ => none⟩
theorem cG_eq (ops : List Oper) (o : Oper) (t : Fr) : ((cG ops o).g t).map (fun x => (x.1, x.2.l)) = zlj ops o t.l := by
 unfold cG zlj
 rcases zcy ops o with _ | ⟨_ | d, want⟩
 · rfl
 · rfl
 · simp only [acc_g]
   split
   · rename_i c h
     rw [h]; simp only [z3h, acc_s]
   · rename_i h
     rw [h]; rfl
   · rename_i h1 h2
     split
     · rename_i c hc; exact (h1 c hc).elim
     · rename_i hc; exact (h2 hc).elim
     · rfl
theorem zim {ops : List Oper} {o : Oper} {t t' : Fr} {b : Bool} (h : (cG ops o).g t = some (b, t')) : zlj ops o t.l = some (b, t'.l) := by rw [← cG_eq, h]; rfl
structure PF where
 p : Fr → V → Fr
noncomputable def zxy (d : Option Tmp) : PF :=
 match d with
 | some i => ⟨(acc i).s⟩
 | none => ⟨fun t _ => t⟩
theorem zc4 (d : Option Tmp) (t : Fr) (v : V) : ((zxy d).p t v).l = zso t.l d v := by
 cases d <;> simp only [zxy, zso, acc_s]
noncomputable def qsF (P : Program) (o : Oper) (t : Fr) (m : Mem) : Option (List V) :=
 match o.op with
 | .binOp op T x y _ => binsF P op T ((zfm x).e t) ((zfm y).e t) m
 | _ => zw6 ((cQ P o).q t m)
theorem qsF_eq (P : Program) (o : Oper) (t : Fr) (m : Mem) : qsF P o t m = zh6 P t.l m o := by
 obtain ⟨dst, op, ty, pos, after, guard⟩ := o
 unfold qsF
 split
 · rename_i op' S x y yt he
   dsimp only at he
   subst he
   exact zwp P op' S x y yt t m
 · rename_i hn
   rw [cQ_eq]
   unfold zh6
   split
   · rename_i op' S x y yt he; exact (hn _ _ _ _ _ he).elim
   · cases ze6 P t.l m ⟨dst, op, ty, pos, after, guard⟩ <;> rfl
noncomputable def esF (P : Program) (o : Oper) (ro : List Nat) (call : zd7) (t : Fr) (m : Mem) : Option Out :=
 match o.op with
 | .call c => match c.callee with
   | .value f => (match (zfm f).e t with
     | .f g a cc => call g (ze4 (ze4 a (evA t (zxz c.args.toList))) cc) m
     | _ => none)
   | _ => zw6 ((cD P o).r ro t m)
 | _ => zw6 ((cD P o).r ro t m)
theorem esF_eq (P : Program) (o : Oper) (ro : List Nat) (call : zd7) (t : Fr) (m : Mem) : esF P o ro call t m = effE P ro call t.l m o := by
 unfold esF effE
 simp only [cD_eq, zbn, z1w, za4]
 rfl
abbrev YhE := Nat → List V → Mem → Option Out
structure OsF where
 r : List Nat → zd7 → YhE → Fr → Mem → Option zh1
noncomputable def detF (P : Program) (o : Oper) (rest : OsF) : OsF :=
 cond (strO P o) ⟨fun ro call yh t m => match strS P t.l m o with
  | some v => rest.r ro call yh ((zxy o.dst).p t v) m
  | none => none⟩ <| cond (ziy o) ⟨fun ro call yh t m => match (cQ P o).q t m with
  | some v => rest.r ro call yh ((zxy o.dst).p t v) m
  | none => none⟩
  ⟨fun ro call yh t m => match (cD P o).r ro t m with
   | some r => rest.r ro call yh ((zxy o.dst).p t r.1) r.2
   | none => none⟩
noncomputable def cStep (P : Program) (o : Oper) (rest : OsF) : OsF :=
 match o.op with
 | .call c => match c.callee with
   | .value f => ⟨fun ro call yh t m => match (zfm f).e t with
     | .y b => zes (yh b (evA t (zxz c.args.toList)) m) fun r => rest.r ro call yh ((zxy o.dst).p t r.1) r.2
     | .f g a cc => zes (call g (ze4 (ze4 a (evA t (zxz c.args.toList))) cc) m) fun r => rest.r ro call yh ((zxy o.dst).p t r.1) r.2
     | _ => none⟩
   | _ => detF P o rest
 | .binOp op T x y _ => ⟨fun ro call yh t m => zes (binsF P op T ((zfm x).e t) ((zfm y).e t) m) fun v => rest.r ro call yh ((zxy o.dst).p t v) m⟩
 | _ => detF P o rest
noncomputable def cOps (P : Program) (ops : List Oper) : List Oper → OsF
 | [] => ⟨fun _ _ _ t m => some [(t, m)]⟩
 | o :: rest => match o.guard with
   | none => cStep P o (cOps P ops rest)
   | some _ => ⟨fun ro call yh t m => match (cG ops o).g t with
     | none => none
     | some (false, t') => (cOps P ops rest).r ro call yh ((zxy o.dst).p t' (.t [])) m
     | some (true, t') => (cStep P o (cOps P ops rest)).r ro call yh t' m⟩
def YhOk (yhE : YhE) (yh : Nat → List V → Mem → (V → Mem → Prop) → Prop) : Prop := ∀ {b : Nat} {args : List V} {m : Mem} {rs : Out} {K : V → Mem → Prop}, yhE b args m = some rs → (∀ r ∈ rs, K r.1 r.2) → yh b args m K
theorem z0f (c : Bool) (f g : OsF) (ro : List Nat) (call : zd7) (yh : YhE) (t : Fr) (m : Mem) : (cond c f g).r ro call yh t m = cond c (f.r ro call yh t m) (g.r ro call yh t m) := by cases c <;> rfl
def zxa (P : Program) (ro : List Nat) (call : zb2) (yh : Nat → List V → Mem → (V → Mem → Prop) → Prop) (o : Oper) (F : List V → Mem → Prop) (t : List V) (m : Mem) : Prop :=
 match zbv t o with
 | some (b, args) => yh b args m fun v m' => F (zso t o.dst v) m'
 | none => opS P true ro call t m o fun v m' => F (zso t o.dst v) m'
theorem detF_ok {P : Program} {o : Oper} {rest : OsF} {ro : List Nat} {callE : zd7} {call : zb2} {yhE : YhE} {yh : Nat → List V → Mem → (V → Mem → Prop) → Prop} {F : List V → Mem → Prop} {outs : zh1} {t : Fr} {m : Mem} (hy : zbv t.l o = none) (hF : ∀ {t : Fr} {m outs'}, rest.r ro callE yhE t m = some outs' → (∀ x ∈ outs', x ∈ outs) → F t.l m)
 (h : (detF P o rest).r ro callE yhE t m = some outs) : zxa P ro call yh o F t.l m := by
 unfold zxa
 rw [hy]
 dsimp only
 unfold opS
 simp only [cond_true]
 unfold detF at h
 rw [z0f, z0f] at h
 cases ho : strO P o with
 | true =>
   rw [ho] at h
   simp only [cond_true] at h
   split at h
   · rename_i v hv
     rw [zy2 ho hv]
     have hk := hF h fun x hx => hx
     rw [zc4] at hk
     exact hk
   · cases h
 | false =>
 rw [ho] at h
 simp only [cond_false] at h
 rw [zj0 ho]
 dsimp only
 cases hq : ziy o with
 | true =>
   rw [hq] at h
   simp only [cond_true] at h ⊢
   rw [cQ_eq] at h
   split at h
   · rename_i v hv
     have hk := hF h fun x hx => hx
     rw [zc4] at hk
     exact zqs (K := fun v => F (zso t.l o.dst v) m) hv hk
   · cases h
 | false =>
   rw [hq] at h
   simp only [cond_false] at h ⊢
   rw [cD_eq] at h
   split at h
   · rename_i r hr
     have hk := hF h fun x hx => hx
     rw [zc4] at hk
     exact z1z (K := fun v m' => F (zso t.l o.dst v) m') hr hk
   · cases h
theorem cStep_ok {P : Program} {o : Oper} {rest : OsF} {ro : List Nat} {callE : zd7} {call : zb2} (hcall : zfq callE call) {yhE : YhE} {yh : Nat → List V → Mem → (V → Mem → Prop) → Prop} (hyh : YhOk yhE yh) {F : List V → Mem → Prop} {outs : zh1} {t : Fr} {m : Mem}
 (hF : ∀ {t : Fr} {m outs'}, rest.r ro callE yhE t m = some outs' → (∀ x ∈ outs', x ∈ outs) → F t.l m) (h : (cStep P o rest).r ro callE yhE t m = some outs) : zxa P ro call yh o F t.l m := by
 unfold cStep at h
 split at h
 · rename_i c hc
   split at h
   · rename_i f hf
     dsimp only at h
     rw [zbn, z1w] at h
     unfold zxa
     split at h
     · rename_i b he
       have : zbv t.l o = some (b, c.args.toList.map (evS t.l)) := by
        unfold zbv; rw [hc]; simp only [hf, he]
       rw [this]
       dsimp only
       obtain ⟨l, h1, h2⟩ := za6 h
       refine hyh h1 fun r hr => ?_
       obtain ⟨a, h3, h4⟩ := h2 r hr
       have hk := hF h3 h4
       rw [zc4] at hk
       exact hk
     · rename_i g a cc he
       have : zbv t.l o = none := by
        unfold zbv; rw [hc]; simp only [hf, he]
       rw [this]
       dsimp only
       unfold opS
       have hq : ziy o = false := by
        unfold ziy zch zgz
        rw [hc]
        obtain ⟨ca, aa, ba⟩ := c
        dsimp only at hf
        subst hf
        rfl
       rw [zj0 (by unfold strO; rw [hc])]
       simp only [cond_true, hq, cond_false]
       obtain ⟨l, h1, h2⟩ := za6 h
       unfold effS
       rw [hc]
       simp only [hf, he]
       rw [za4, za4] at h1
       refine hcall h1 fun r hr => ?_
       obtain ⟨a, h3, h4⟩ := h2 r hr
       have hk := hF h3 h4
       rw [zc4] at hk
       exact hk
     · cases h
   · rename_i hn
     refine detF_ok ?_ hF h
     unfold zbv
     rw [hc]
     dsimp only
     split
     · rename_i f hf; exact (hn _ hf).elim
     · rfl
 · rename_i op' S x y yt hc
   have hy : zbv t.l o = none := by unfold zbv; rw [hc]
   unfold zxa
   rw [hy]
   dsimp only
   unfold opS
   have hq : ziy o = true := by unfold ziy zch; rw [hc]; rfl
   rw [zj0 (by unfold strO; rw [hc])]
   simp only [cond_true, hq]
   dsimp only at h
   obtain ⟨l, h1, h2⟩ := za6 h
   obtain ⟨dst, op, ty, pos, after, guard⟩ := o
   dsimp only at hc
   subst hc
   rw [zwp P op' S x y yt t m (dst := dst) (ty := ty) (pos := pos) (after := after) (guard := guard)] at h1
   refine zna h1 fun v hv => ?_
   obtain ⟨a, h3, h4⟩ := h2 v hv
   have hk := hF h3 h4
   rw [zc4] at hk
   exact hk
 · rename_i h1 h2
   refine detF_ok ?_ hF h
   unfold zbv
   split
   · rename_i c hc; exact (h1 _ hc).elim
   · rfl
theorem zt9 {P : Program} {ops : List Oper} {ro : List Nat} {callE : zd7} {call : zb2} (hcall : zfq callE call) {yhE : YhE} {yh : Nat → List V → Mem → (V → Mem → Prop) → Prop} (hyh : YhOk yhE yh) {K : List V → Mem → Prop} :
 ∀ {l : List Oper} {t : Fr} {m : Mem} {outs : zh1}, (cOps P ops l).r ro callE yhE t m = some outs → (∀ x ∈ outs, K x.1.l x.2) → zor P true ro call yh ops K l t.l m
 | [], t, m, outs, h, hK => by cases h; exact hK (t, m) (by simp)
 | o :: l, t, m, outs, h, hK => by
   simp only [cOps] at h
   simp only [zor]
   have step : ∀ {t' : Fr}, (cStep P o (cOps P ops l)).r ro callE yhE t' m = some outs → zxa P ro call yh o (fun t m => zor P true ro call yh ops K l t m) t'.l m := fun h1 =>
    cStep_ok hcall hyh (fun h2 h3 => zt9 hcall hyh h2 fun x hx => hK x (h3 x hx)) h1
   cases hg : o.guard with
   | none =>
     rw [hg] at h
     have : zlj ops o t.l = some (true, t.l) := by
      unfold zlj zcy
      rw [hg]
     exact zcz this (step h)
   | some g =>
     rw [hg] at h
     dsimp only at h
     split at h
     · cases h
     · rename_i t' hg2
       have hk := zt9 hcall hyh h hK
       rw [zc4] at hk
       exact zcz (zim hg2) hk
     · rename_i t' hg2
       exact zcz (zim hg2) (step h)
structure DF where
 r : List Nat → List Nat → (List Nat → zd7) → List (Nat × List Nat) → Fr → Mem → Option zh1
noncomputable def conjF (l : List Nat) (f : Nat → Option zh1) : Option zh1 := List.casesOn (motive := fun _ => Option zh1) l none (fun _ _ => bindO l f)
noncomputable def srcF (t : Fr) (o : Oper) : List Nat := zm6 (evA t (zxz o.op.operands.toList))
theorem srcF_eq (t : Fr) (o : Oper) : srcF t o = zl8 t.l o := by rw [srcF, zgy, z1w]; rfl
noncomputable def cQd (P : Program) (ops : List Oper) (i : Nat) (o : Oper) (rest : DF) : DF :=
 ⟨fun ro hr call held t m => match (cG ops o).g t with
  | none => none
  | some (true, t') => zes (qsF P o t' m) fun v => rest.r ro hr call (cond (zom o) held ((i, srcF t' o) :: held)) ((zxy o.dst).p t' v) m
  | some (false, t') => rest.r ro hr call held ((zxy o.dst).p t' (.t [])) m⟩
noncomputable def cEd (P : Program) (ops : List Oper) (i : Nat) (o : Oper) (rest : DF) : DF :=
 ⟨fun ro hr call held t m => match (cG ops o).g t with
  | none => none
  | some (true, t') => zes (esF P o (zrp ops i held ++ hr ++ ro) (call (zrp ops i held ++ hr)) t' m) fun r => rest.r ro hr call held ((zxy o.dst).p t' r.1) r.2
  | some (false, t') => rest.r ro hr call held ((zxy o.dst).p t' (.t [])) m⟩
noncomputable def zx0 (P : Program) (ops : List Oper) : Nat → List Nat → DF
 | 0, _ => ⟨fun _ _ _ _ t m => some [(t, m)]⟩
 | n + 1, done =>
   match zq7 ops done with
   | some i => match ops[i]? with
     | none => ⟨fun _ _ _ _ _ _ => none⟩
     | some o => cQd P ops i o (zx0 P ops n (i :: done))
   | none => ⟨fun ro hr call held t m => conjF (zb7 ops done) fun i => (match ops[i]? with
     | none => ⟨fun _ _ _ _ _ _ => none⟩
     | some o => cEd P ops i o (zx0 P ops n (i :: done)) : DF).r ro hr call held t m⟩
theorem zwd : ∀ {l : List Nat} {F : Nat → Prop}, l ≠ [] → (∀ i ∈ l, F i) → conjL l F
 | [], F, h, _ => absurd rfl h
 | [i], F, _, h => h i (by simp)
 | i :: j :: l, F, _, h => ⟨h i (by simp), zwd (by simp) fun k hk => h k (by simp at hk ⊢; right; exact hk)⟩
theorem zhw {P : Program} {ops : List Oper} {ro hr : List Nat} {callE : List Nat → zd7} {call : List Nat → zb2} (hcall : ∀ h, zfq (callE h) (call h)) {K : List V → Mem → Prop} :
 ∀ {n : Nat} {done : List Nat} {held : List (Nat × List Nat)} {t : Fr} {m : Mem} {outs : zh1}, (zx0 P ops n done).r ro hr callE held t m = some outs → (∀ x ∈ outs, K x.1.l x.2) → zmr P true ro hr call ops K n done held t.l m
 | 0, done, held, t, m, outs, h, hK => by cases h; exact hK (t, m) (by simp)
 | n + 1, done, held, t, m, outs, h, hK => by
   simp only [zx0] at h
   simp only [zmr]
   cases hq : zq7 ops done with
   | some i =>
     rw [hq] at h
     dsimp only at h ⊢
     cases ho : ops[i]? with
     | none => rw [ho] at h; cases h
     | some o =>
       rw [ho] at h
       dsimp only [cQd] at h ⊢
       split at h
       · cases h
       · rename_i t' hg
         refine zcz (zim hg) ?_
         simp only [cond_true]
         obtain ⟨l, h1, h2⟩ := za6 h
         rw [qsF_eq] at h1
         refine zna h1 fun v hv => ?_
         obtain ⟨a, h3, h4⟩ := h2 v hv
         rw [srcF_eq] at h3
         have hk := zhw hcall h3 fun x hx => hK x (h4 x hx)
         rw [zc4] at hk
         exact hk
       · rename_i t' hg
         have hk := zhw hcall h hK
         rw [zc4] at hk
         exact zcz (zim hg) hk
   | none =>
     rw [hq] at h
     dsimp only at h ⊢
     have hne : zb7 ops done ≠ [] := fun e => by rw [e] at h; cases h
     refine zwd hne fun i hi => ?_
     have h : bindO (zb7 ops done) (fun i => (match ops[i]? with
      | none => (⟨fun _ _ _ _ _ _ => none⟩ : DF)
      | some o => cEd P ops i o (zx0 P ops n (i :: done))).r ro hr callE held t m) = some outs := by
      unfold conjF at h
      cases hr : zb7 ops done with
      | nil => exact absurd hr hne
      | cons a b => rw [hr] at h; exact h
     obtain ⟨a, h3, h4⟩ := zpk h i hi
     cases ho : ops[i]? with
     | none => rw [ho] at h3; cases h3
     | some o =>
       rw [ho] at h3
       dsimp only [cEd] at h3 ⊢
       split at h3
       · cases h3
       · rename_i t' hg
         refine zcz (zim hg) ?_
         simp only [cond_true]
         obtain ⟨l, h1, h2⟩ := za6 h3
         rw [esF_eq] at h1
         refine effE_ok (hcall _) h1 fun r hr => ?_
         obtain ⟨a2, h5, h6⟩ := h2 r hr
         have hk := zhw hcall h5 fun x hx => hK x (h4 x (h6 x hx))
         rw [zc4] at hk
         exact hk
       · rename_i t' hg
         have hk := zhw hcall h3 fun x hx => hK x (h4 x hx)
         rw [zc4] at hk
         exact zcz (zim hg) hk
end Go.Proofs.YtalglagdgabafaaGreat
