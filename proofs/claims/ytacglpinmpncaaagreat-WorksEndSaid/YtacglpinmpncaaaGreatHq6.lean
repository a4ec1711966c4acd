/- Works: a job is delivered (Deliver). -/
import Derived.Test.YtacglpinmpncaaaGreatHq5
import Derived.Test.YtacglpinmpncaaaGreatProg
import Derived.Shelf.Spec.SlicesInsert
import Derived.Shelf.Spec.SlicesInsertGrow
import Derived.Test.YtacglpinmpncaaaGreatRows
import Derived.ProofKit
import Derived.Deep.SlicePairs
set_option linter.unusedVariables false
namespace Go.Proofs.YtacglpinmpncaaaGreat
variable {x : Bool} {d : Dr} {g : FuncId} {D : Fz} {bay e id j level n now runs : Int} {a r : List (List U)} {F : List (List U) → Int → Prop} {mp : List (MK × List U)} {ds : List Dr} {l : List Int} {L : List Tm} {args : List V} {S : Mem → Prop} {ek i k : Nat} {X : Ob} {P : Program} {α : Type} {Q : V → Mem → Prop}
open _root_.Array renaming getElem?_modify → z1y, getElem?_push → z2p, getElem?_push_size → z28, length_toList → z1z, size_push → z27, toArray_toList → z0n, toList_append → z3l
open _root_.Bool renaming and_eq_true → zyy, and_true → z19, eq_false_iff → z29, not_eq_false → z3q, not_eq_true' → zzt, not_true → z0c, or_eq_true → z1p
open _root_.Int renaming add_mul_ediv_left → z3n, ediv_eq_zero_of_lt → z3p, eq_ofNat_of_zero_le → z04, le_refl → zzk, mul_ediv_add_emod → z3o, mul_le_mul → z1u, mul_nonneg → z2l, natCast_nonneg → z1h, toNat → zyx, toNat_natCast → zzm
open _root_.Go.IntKind renaming wrap → zyu
open _root_.List renaming all_cons → z1g, all_eq_true → z0d, all_nil → z18, append_assoc → zy8, append_nil → zzw, cons_append → zz6, drop_append → z2g, drop_drop → z08, drop_eq_nil_of_le → z0u, drop_zero → z09, eq_nil_of_length_eq_zero → z0p, ext_getElem? → z1a, filter_append → z2i, flatten_append → zzs, flatten_cons → zzd, flatten_nil → z2h, getElem?_append_left → zy7, getElem?_append_right → zzn, getElem?_cons_zero → z2u, getElem?_eq_getElem → zy0, getElem?_eq_none → z0m, getElem?_eq_none_iff → z24, getElem?_eq_some_iff → zyz, getElem?_map → zy5, getElem?_set_ne → zzp, getElem?_set_self → zz3, getElem?_take → z0l, getElem?_toArray → z0a, getElem_mem → z2t, length → zyv, length_append → zzl, length_cons → zzg, length_drop → z1j, length_filter_le → z0b, length_map → zy2, length_nil → z0z, length_set → zzz, length_take → zz1, map → zzf, map_append → zzr, map_cons → zzj, map_drop → z1f, map_map → zz9, map_nil → z1n, map_set → z1b, map_take → z03, mem_append → zy6, mem_cons → zy3, mem_cons_of_mem → zzo, mem_cons_self → zzq, mem_filter → z0f, mem_flatMap → z1m, mem_iff_getElem? → zz4, mem_map → zzu, mem_of_getElem? → zy4, mem_of_mem_drop → z1s, mem_or_eq_of_mem_set → z13, mem_singleton → z0s, nil_append → zz7, nodup_append → z01, nodup_cons → z0q, not_mem_nil → z0w, pairwise_append → z3m, pairwise_cons → zz5, pairwise_map → z17, perm_append_comm_assoc → zz2, replicate → zzi, replicate_succ → z1k, set → zzb, size_toArray → z00, take_add_one → z05, take_append_drop → z0h, take_append_of_le_length → z2j, take_length → z0r, take_of_length_le → z0v
open _root_.Nat renaming add_assoc → z0t, add_zero → z0y, beq → zyw, ble → zzc, ble_eq_true_of_le → z1i, eq_of_beq_eq_true → zy1, exists_eq_add_of_le → z3k, le_of_ble_eq_true → zz0, le_refl → zy9, le_succ → z0i, lt_or_ge → z0o, zero_add → zze, zero_le → zzv
open _root_.Option renaming getD_some → zz8, isSome_iff_exists → z2k, map_eq_some_iff → z0e, map_some → z0g
section
variable {P : Program} {D D' : Fz} {ρ ρ' : List Loc} {m m' : Mem} {chs C : List zac} {h h' : zaf} {ro hr : List Nat}
def znx : Mem → List Nat → List AB → Mem
 | m, j :: js, a :: al => znx (ms m j a) js al
 | m, _, _ => m
theorem znw : ∀ (js : List Nat) (al : List AB) (m : Mem), (znx m js al).length = m.length
 | [], al, m => by cases al <;> rfl
 | j :: js, [], m => rfl
 | j :: js, a :: al, m => by simp only [znx]; rw [znw js al, zbz]
theorem zwt : ∀ {js : List Nat} {al : List AB} {cs : List zac} {m : Mem} {c : List zac}, js.length = al.length → cs.length = al.length → SAt D ρ m c (cs ++ C) h → js.Nodup →
 (∀ (i j : Nat) (a : AB) (ch : zac), js[i]? = some j → al[i]? = some a → cs[i]? = some ch → j < m.length ∧ ∃ L, ρ[j]? = some L ∧ Ent D ρ L a ch) →
 ∃ c', SAt D ρ (znx m js al) c' C h ∧ ∀ b, b ∉ js → c'[b]? = c[b]? ∧ mg (znx m js al) b = mg m b
 | [], [], cs, m, c, h1, h2, M, hn, he => by
   have : cs = [] := z0p (by simpa using h2)
   subst this
   exact ⟨c, M, fun b _ => ⟨rfl, rfl⟩⟩
 | j :: js, a :: al, ch :: cs, m, c, h1, h2, M, hn, he => by
   obtain ⟨hj, L, hL, hE⟩ := he 0 j a ch rfl rfl rfl
   have M2 : SAt D ρ (ms m j a) (c.set j ch) (cs ++ C) h := M.over hj hL hE
   have hn2 := z0q.1 hn
   obtain ⟨c', M3, g⟩ := zwt (js := js) (al := al) (cs := cs) (by simpa using h1) (by simpa using h2) M2 hn2.2 fun i j' a' ch' q1 q2 q3 => by
    obtain ⟨w1, w2⟩ := he (i + 1) j' a' ch' (by simpa using q1) (by simpa using q2) (by simpa using q3)
    exact ⟨by rw [zbz]; exact w1, w2⟩
   refine ⟨c', M3, fun b hb => ?_⟩
   simp only [zy3, not_or] at hb
   obtain ⟨g1, g2⟩ := g b hb.2
   refine ⟨by rw [g1, zzp (Ne.symm hb.1)], ?_⟩
   simp only [znx]
   rw [g2, zbe (Ne.symm hb.1)]
 | [], _ :: _, _, _, _, h1, _, _, _, _ => by simp at h1
 | _ :: _, [], _, _, _, h1, _, _, _, _ => by simp at h1
 | _ :: _, _ :: _, [], _, _, _, h2, _, _, _ => by simp at h2
def fK (ix : List Nat) (n i : Nat) : Nat := cond (zzc (i + 1) ix.length) (ztm ix i) (n + (i - ix.length))
def backM (m : Mem) (ix : List Nat) (M' : Mem) : Mem :=
 znx (zcq m ix ++ zzi (M'.length - ix.length) .x) (ix ++ List.range' m.length (M'.length - ix.length)) (M'.map (zo2 (fK ix m.length)))
theorem fK_lt {ix : List Nat} {n b : Nat} (h : ix[i]? = some b) : fK ix n i = b := by
 have : i < ix.length := by
  rcases z0o i ix.length with h1 | h1
  · exact h1
  · rw [z0m h1] at h; cases h
 unfold fK
 rw [z1i this, cond_true]
 exact zlp h
theorem fK_ge {ix : List Nat} {n : Nat} : fK ix n (ix.length + k) = n + k := by
 unfold fK
 have : zzc (ix.length + k + 1) ix.length = false := by
  cases e : zzc (ix.length + k + 1) ix.length with
  | false => rfl
  | true => have := zz0 e; omega
 rw [this, cond_false]; omega
def KnP (P : Program) (ro : List Nat) (g : FuncId) (args : List V) (m : Mem) (K : V → Mem → Prop) : Prop :=
 ∃ (ix : List Nat) (R : V) (M' : Mem), ix.Nodup ∧ (∀ b ∈ ix, b < m.length ∧ b ∉ ro) ∧ (∀ b ∈ ix, ∀ c ∈ za9 (mg m b), c ∈ ix) ∧ (∀ b ∈ zag args, b ∈ ix) ∧
   PRun P g (zk6 m ix) (zd0 (fun b => zjs ix b 0) args) (fun x m' => x = R ∧ m' = M') ∧ K (zci (fK ix m.length) R) (backM m ix M')
theorem xs_S : ∀ (k : Nat) {ρ : List Loc} {m : Mem} {chs C : List zac} {s : List Loc}, SAt D ρ m chs C h → s.length = k → SAt D (ρ ++ s) (m ++ zzi k .x) (chs ++ zzi k []) C h
 | 0, ρ, m, chs, C, s, M, hs => by
   have : s = [] := z0p hs
   subst this
   simpa using M
 | k + 1, ρ, m, chs, C, [], M, hs => by simp at hs
 | k + 1, ρ, m, chs, C, L :: s, M, hs => by
   have M1 : SAt D (ρ ++ [L]) (m ++ [.x]) (chs ++ [[]]) C h := SAt.push (ch := []) ⟨M.len, M.lch, M.ent, by
    have := M.st
    refine this.perm ?_
    simp⟩ .x
   have := xs_S k (s := s) M1 (by simpa using hs)
   simpa [zy8, z1k] using this
theorem zqa {X : Fz → List Loc → Prop} {KS : V → Mem → Prop} (hs : KnP P (hr ++ ro) g args m KS) {vs : List Value} (M : SAt D ρ m chs C h) (ha : RpL D ρ vs args) : Run P g vs h (zcx ro hr D ρ m chs C KS) := by
 obtain ⟨ix, R, M', hnd, hb, hcl, har, hrun, hK⟩ := hs
 obtain ⟨c', cs, hcs, Mk, gk, Ms⟩ := M.sub2 hnd (fun b h => (hb b h).1) hcl
 have ra' := (ren_all (D := D) (ρ := ρ) (f := fun b => zjs ix b 0) (ρ' := ix.map fun b => (ρ[b]?).getD ⟨0, none, 0, 0, none⟩)).2.1 ha fun b hb L hL => by
  obtain ⟨k, h4, h5⟩ := zer (k := 0) (har b hb)
  rw [h4, zze, zy5, h5, z0g, hL]; rfl
 refine (hrun D _ cs (c' ++ C) h vs Ms ra').mono ?_
 rintro v h' ⟨D2, s, cs2, x, m', le, Ms2, hv, rfl, rfl⟩
 -- al many blocks al places
 have l1 := Ms2.len
 have l2 := Ms2.lch
 simp only [zzl, zy2] at l1
 have hk : m'.length - ix.length = s.length := by omega
 have Mk2 : SAt D2 ρ (zcq m ix) c' (cs2 ++ C) h' := ⟨Mk.len, Mk.lch, fun i L ab ch q1 q2 q3 => by have := (Mk.ent i L ab ch q1 q2 q3).mono le (s := []); rwa [zzw] at this, Ms2.st.perm (by
  simp only [zzs]
  exact zz2 _ _ _)⟩
 have Mx := xs_S (m'.length - ix.length) (s := s) Mk2 hk.symm
 have lm : (zcq m ix).length = m.length := zfx _ _
 have fin : ∀ {i : Nat} {L : Loc}, ((ix.map fun b => (ρ[b]?).getD ⟨0, none, 0, 0, none⟩) ++ s)[i]? = some L → (ρ ++ s)[fK ix m.length i]? = some L := by
  intro i L hL
  rcases z0o i ix.length with hi | hi
  · have e := zy0 hi
    rw [zy7 (by simpa using hi), zy5, e, z0g] at hL
    rw [fK_lt e]
    have hlt : ix[i] < ρ.length := by rw [M.len]; exact (hb _ (z2t hi)).1
    rw [zy7 hlt, zy0 hlt]
    rw [zy0 hlt, zz8] at hL
    exact hL
  · obtain ⟨k, rfl⟩ := z3k hi
    rw [zzn (by simp)] at hL
    rw [fK_ge, zzn (by rw [M.len]; omega)]
    have e1 : m.length + k - ρ.length = k := by rw [M.len]; omega
    have e2 : ix.length + k - (ix.map fun b => (ρ[b]?).getD ⟨0, none, 0, 0, none⟩).length = k := by simp
    rw [e2] at hL
    rw [e1]; exact hL
 have hjs : ∀ (i j : Nat), (ix ++ List.range' m.length (m'.length - ix.length))[i]? = some j → i < m'.length ∧ j = fK ix m.length i ∧ j < m.length + (m'.length - ix.length) := by
  intro i j hj
  rcases z0o i ix.length with hi | hi
  · rw [zy7 hi] at hj
    exact ⟨by omega, (fK_lt hj).symm, by have := (hb j (zy4 hj)).1; omega⟩
  · obtain ⟨k, rfl⟩ := z3k hi
    rw [zzn (by omega)] at hj
    have hk2 : ix.length + k - ix.length < m'.length - ix.length := by
     rcases z0o (ix.length + k - ix.length) (m'.length - ix.length) with q | q
     · exact q
     · rw [z0m (by simpa using q)] at hj; cases hj
    rw [List.getElem?_range' hk2] at hj
    simp only [Option.some.injEq] at hj
    rw [fK_ge]
    omega
 obtain ⟨c2, M3, g3⟩ := zwt (js := ix ++ List.range' m.length (m'.length - ix.length)) (al := m'.map (zo2 (fK ix m.length))) (cs := cs2) (by simp; omega) (by simp [l2]) Mx (by
  refine z01.2 ⟨hnd, List.nodup_range', ?_⟩
  intro a ha b hb2 e
  subst e
  have := (hb a ha).1
  have := List.mem_range'_1.1 hb2
  omega) fun i j a ch q1 q2 q3 => by
  obtain ⟨hi, rfl, hlt⟩ := hjs i j q1
  refine ⟨by simp only [zzl, List.length_replicate, lm]; exact hlt, ?_⟩
  simp only [zy5] at q2
  obtain ⟨a0, ha0, rfl⟩ := z0e.1 q2
  have hiL : i < ((ix.map fun b => (ρ[b]?).getD ⟨0, none, 0, 0, none⟩) ++ s).length := by simp; omega
  have e := zy0 hiL
  exact ⟨_, fin e, (Ms2.ent i _ a0 ch e ha0 q3).ren fun b _ L hL => fin hL⟩
 have hv3 := (ren_all (D := D2) (f := fK ix m.length) (ρ' := ρ ++ s)).1 hv fun b _ L hL => fin hL
 refine ⟨D2, ρ ++ s, _, c2, _, ⟨le, ⟨s, rfl⟩, fun b h1 h2 => ?_, fun b h1 h2 => ?_, ?_⟩, M3, hv3, hK⟩
 · have hni : b ∉ ix := fun hbi => (hb b hbi).2 (zy6.2 (.inl (inL_iff.1 h1)))
   have hnj : b ∉ ix ++ List.range' m.length (m'.length - ix.length) := by
    intro hh
    rcases zy6.1 hh with q | q
    · exact hni q
    · have := List.mem_range'_1.1 q; omega
   rw [(g3 b hnj).1, zy7 (by rw [Mk.lch, lm]; exact h2), (gk b hni).1]
 · have hni : b ∉ ix := fun hbi => (hb b hbi).2 (inL_iff.1 h1)
   have hnj : b ∉ ix ++ List.range' m.length (m'.length - ix.length) := by
    intro hh
    rcases zy6.1 hh with q | q
    · exact hni q
    · have := List.mem_range'_1.1 q; omega
   have := (g3 b hnj).2
   show mg (znx _ _ _) b = _
   rw [this, zki (by rw [lm]; exact h2), (gk b hni).2]
 · rw [znw]
   simp only [zzl, lm]; omega
end
section
variable {P : Program} {g : FuncId} {m : Mem} {args : List V}
theorem PRun.drop (b : Nat) (h : PRun P g m args fun x m' => Q x (ms m' b .x)) : PRun P g m args Q :=
 fun D ρ chs C hp vs M F => (h D ρ chs C hp vs M F).mono fun _ _ ⟨D', ρ', chs', x, m', a, b', c, d⟩ => ⟨D', ρ', chs'.set b [], x, ms m' b .x, a, b'.drop b, c, d⟩
end
def orP (x y : Option Prop) : Option Prop :=
 match x with
 | some p => some p
 | none => y
def SP.or {P : Program} (A B : SP P) : SP P where
 f ro call g args m K := orP (A.f ro call g args m K) (B.f ro call g args m K)
 ok := by
  intro ro hr X call hX hcall g args m KS p hs hp D ρ chs C h vs xx M ha
  unfold orP at hs
  split at hs
  · rename_i q hq
    cases hs
    exact A.ok hX hcall hq hp xx M ha
  · exact B.ok hX hcall hs hp xx M ha
section
variable {P : Program}
def zp3 (ro : List Nat) : List Nat → Bool
 | [] => true
 | b :: l => !inL ro b && zp3 ro l
theorem zim {ro : List Nat} : ∀ {l : List Nat}, zp3 ro l = true → ∀ b ∈ l, b ∉ ro
 | [], _, b, hb => by simp at hb
 | x :: l, h, b, hb => by
   simp only [zp3, zyy, zzt] at h
   rcases zy3.1 hb with rfl | hb
   · exact fun hh => by rw [inL_iff.2 hh] at h; cases h.1
   · exact zim h.2 b hb
theorem PRun.undat {m : Mem} (h : PRun P g (zx4 m) args Q) : PRun P g m args Q :=
 fun D ρ chs C hp vs M F => h D ρ chs C hp vs M.dat F
def kcP (P : Program) (F : FuncId) (X : V) (T : Mem) (ro : List Nat) (args : List V) (m : Mem) (K : V → Mem → Prop) (ix : List Nat) : Option Prop :=
 cond (zff m.length ix && (zp3 ro ix && (zdy ix (ix.flatMap fun b => za9 (mg m b)) && zdy ix (zag args))))
  (some (PRun P F (zx4 (zk6 m ix)) (zd0 (fun b => zjs ix b 0) args) (fun x m => x = X ∧ m = T) ∧ K (zci (fK ix m.length) X) (backM m ix T))) (some False)
def zvf (F : FuncId) (X : V) (T : Mem) : SP P where
 f ro _ g args m K := cond (zyw g F) (kcP P F X T ro args m K (clo m 1000 (zag args) [])) none
 ok := by
  intro ro hr Y call hX hcall g args m KS p hs hp D ρ chs C h vs xx M ha
  cases hg : zyw g F with
  | false => rw [hg] at hs; cases hs
  | true =>
    rw [hg] at hs
    have := zy1 hg
    subst this
    simp only [cond_true, kcP] at hs
    generalize hix : clo m 1000 (zag args) [] = ix at hs
    have hnd : ix.Nodup := hix ▸ zcv _ _ _ List.nodup_nil
    generalize hc : (zff m.length ix && (zp3 (hr ++ ro) ix && (zdy ix (ix.flatMap fun b => za9 (mg m b)) && zdy ix (zag args)))) = cc at hs
    cases cc with
    | false => cases hs; exact hp.elim
    | true =>
      cases hs
      simp only [zyy] at hc
      obtain ⟨h4, h5, h6, h7⟩ := hc
      exact zqa (X := Y) ⟨ix, X, T, hnd, fun x hx => ⟨zbx h4 x hx, zim h5 x hx⟩, fun x hx y hy => za0 h6 y (z1m.2 ⟨x, hx, hy⟩), fun x hx => za0 h7 x hx, hp.1.undat, hp.2⟩ M ha
def krP (P : Program) (F : FuncId) (X : V) (T : Mem) (ro : List Nat) (args : List V) (m : Mem) (K : V → Mem → Prop) (ix : List Nat) : Option Prop :=
 cond (zff m.length ix && (zp3 ro ix && (zdy ix (ix.flatMap fun b => za9 (mg m b)) && zdy ix (zag args))))
  (some (PRun P F (zk6 m ix) (zd0 (fun b => zjs ix b 0) args) (fun x m => x = X ∧ m = T) ∧ K (zci (fK ix m.length) X) (backM m ix T))) (some False)
def spKr (F : FuncId) (X : V) (T : Mem) : SP P where
 f ro _ g args m K := cond (zyw g F) (krP P F X T ro args m K (clo m 1000 (zag args) [])) none
 ok := by
  intro ro hr Y call hX hcall g args m KS p hs hp D ρ chs C h vs xx M ha
  cases hg : zyw g F with
  | false => rw [hg] at hs; cases hs
  | true =>
    rw [hg] at hs
    have := zy1 hg
    subst this
    simp only [cond_true, krP] at hs
    generalize hix : clo m 1000 (zag args) [] = ix at hs
    have hnd : ix.Nodup := hix ▸ zcv _ _ _ List.nodup_nil
    generalize hc : (zff m.length ix && (zp3 (hr ++ ro) ix && (zdy ix (ix.flatMap fun b => za9 (mg m b)) && zdy ix (zag args)))) = cc at hs
    cases cc with
    | false => cases hs; exact hp.elim
    | true =>
      cases hs
      simp only [zyy] at hc
      obtain ⟨h4, h5, h6, h7⟩ := hc
      exact zqa (X := Y) ⟨ix, X, T, hnd, fun x hx => ⟨zbx h4 x hx, zim h5 x hx⟩, fun x hx y hy => za0 h6 y (z1m.2 ⟨x, hx, hy⟩), fun x hx => za0 h7 x hx, hp.1, hp.2⟩ M ha
def spKg (F : FuncId) (R : List V → Mem → V × Mem) : SP P where
 f ro _ g args m K := cond (zyw g F) (krP P F (R (zd0 (fun b => zjs (clo m 1000 (zag args) []) b 0) args) (zk6 m (clo m 1000 (zag args) []))).1 (R (zd0 (fun b => zjs (clo m 1000 (zag args) []) b 0) args) (zk6 m (clo m 1000 (zag args) []))).2 ro args m K (clo m 1000 (zag args) [])) none
 ok := by
  intro ro hr Y call hX hcall g args m KS p hs hp D ρ chs C h vs xx M ha
  cases hg : zyw g F with
  | false => rw [hg] at hs; cases hs
  | true => exact (spKr (P := P) F _ _).ok (X := Y) hX hcall (g := g) (args := args) (m := m) (KS := KS) (by rw [hg] at hs; show cond (zyw g F) _ _ = _; rw [hg]; exact hs) hp xx M ha
def spFl (F : FuncId) : SP P where
 f _ _ g _ _ _ := cond (zyw g F) (some False) none
 ok := by
  intro ro hr Y call hX hcall g args m KS p hs hp D ρ chs C h vs xx M ha
  cases hg : zyw g F with
  | false => rw [hg] at hs; cases hs
  | true => rw [hg] at hs; cases hs; exact hp.elim
end
section
variable {D D' : Fz} {ρ ρ' : List Loc} {m m' : Mem} {chs C : List zac} {h h' : zaf} {ro hr : List Nat}
def zxl (l : List Nat) : Bool := match l with | [] => true | _ => false
def newP (P : Program) (G : Nat) (as' : List V) (m : Mem) (K : V → Mem → Prop) : Prop :=
 ∃ I : Ob, PRun P G [] as' (fun x m' => x = .t [.r 0 0, .i 0] ∧ m' = [.o I]) ∧ K (.t [.r m.length 0, .i 0]) (m ++ [.o I])
theorem newP_S {as' : List V} {KS : V → Mem → Prop} {D1 : Fz} {m1 : Mem} {c1 : List zac} (hp : newP P g as' m1 KS) (hn : zag as' = []) {vs : List Value} (n1 : Nx ro hr D ρ m chs D1 ρ m1 c1) (M1 : SAt D1 ρ m1 c1 C h) (ra : RpL D1 ρ vs as') : Run P g vs h (zcx ro hr D ρ m chs C KS) := by
 obtain ⟨I, hrun, hK⟩ := hp
 have M0 : SAt D1 [] [] [] (c1 ++ C) h := ⟨rfl, rfl, fun i L ab ch q => by simp at q, by simpa using M1.st⟩
 refine (hrun D1 [] [] (c1 ++ C) h vs M0 (zep ra hn)).mono ?_
 rintro v h2 ⟨D2, s, cs2, x, T', le, M2, hv, rfl, rfl⟩
 obtain ⟨L, rfl⟩ : ∃ L, s = [L] := by
  have := M2.len
  match s, this with
  | [L], _ => exact ⟨L, rfl⟩
 obtain ⟨ch, rfl⟩ : ∃ c, cs2 = [c] := by
  have := M2.lch
  match cs2, this with
  | [c], _ => exact ⟨c, rfl⟩
 have he := M2.ent 0 L _ ch rfl rfl rfl
 have hl1 : ρ.length = m1.length := M1.len
 have hlc : c1.length = m1.length := M1.lch
 have fin : ∀ (b : Nat) (K : Loc), ([] ++ [L])[b]? = some K → (ρ ++ [L])[b + m1.length]? = some K := fun b K hK => by
  rw [zzn (by omega), show b + m1.length - ρ.length = b by omega]
  simpa using hK
 have M3 : SAt D2 (ρ ++ [L]) (m1 ++ [.o I]) (c1 ++ [ch]) C h2 := by
  refine SAt.push ⟨hl1, hlc, fun i L ab ch q1 q2 q3 => by have := (M1.ent i L ab ch q1 q2 q3).mono le (s := []); rwa [zzw] at this, M2.st.perm (by
   simp only [zzs, zzd, z2h, zzw]
   exact zz2 _ _ _)⟩ ?_
  cases he with
  | o hf => exact .o hf
 refine ⟨D2, ρ ++ [L], _, c1 ++ [ch], _, n1.trans (Nx.push M1 le), M3, ?_, hK⟩
 have h0 : Rp D2 (ρ ++ [L]) v (zci (fun b => b + m1.length) (.t [.r 0 0, .i 0])) := ren_all.1 hv fun b _ L hL => fin b L hL
 have e : zci (fun b => b + m1.length) (.t [.r 0 0, .i 0]) = .t [.r m1.length 0, .i 0] := by
  show V.t [.r (0 + m1.length) 0, .i 0] = _
  rw [zze]
 rwa [e] at h0
def spNew (P : Program) (G : Nat) (Ts : List TypeId) : SP P where
 f ro _ g args m K := cond (zyw g G) (match frzL ro m (ztn P Ts args) with
   | some (as', m1) => cond (zxl (zag as')) (some (newP P G as' m1 K)) (some False)
   | none => some False) none
 ok := by
  intro ro hr X call hX hcall g args m KS p hs hp D ρ chs C h vs xx M ha
  cases hg : zyw g G with
  | false => rw [hg] at hs; cases hs
  | true =>
    rw [hg] at hs
    have := zy1 hg
    subst this
    simp only [cond_true] at hs
    split at hs
    · rename_i as' m1 hf
      have ha := zlr (P := P) (Ts := Ts) ha
      obtain ⟨D1, c1, n1, M1, ra⟩ := zol hf M ha
      cases hn : zxl (zag as') with
      | false => rw [hn] at hs; cases hs; exact hp.elim
      | true =>
        rw [hn] at hs; cases hs
        have : zag as' = [] := by
         unfold zxl at hn
         split at hn
         · assumption
         · cases hn
        exact newP_S hp this n1 M1 ra
    · cases hs; exact hp.elim
end
section
set_option maxRecDepth 100000
theorem mixTn7 : Tryz.prog.follows .mixedOrders = true := by kernel_rfl
theorem S21 {k m o p q a b c d f g h t : Int} {l s u : List (List U)} {v : List Int} {w : Ob} (hh : PRun Tryz.prog 69 [] [(q24 k l m [[.n a, .n b, .n c, .n d], [.n e, .n f, .n g, .n h]] n o p q)] (post q7 [] (fun r => (bif r != 0 then Q (.t [.u (.p none), .i r]) (q40 s t u v w 0 [[.l 1 [], .l 1 []], [.l 1 [], .l 1 []], [.l 1 [], .l 1 []], [.l 1 [], .l 1 []]]) else ∃ x : Ob, PRun Tryz.prog 70 [] [.l 4 [[.n a, .n b, .n c, .n d], [.n e, .n f, .n g, .n h]], .l 2 [[.l 1 [], .l 1 []], [.l 1 [], .l 1 []], [.l 1 [], .l 1 []], [.l 1 [], .l 1 []]]] (fun i j => i = .t [.r 0 0, .i 0] ∧ j = [.o x]) ∧ ((PRun Tryz.prog 72 [] [.nl 16] (fun i j => i = .nl 16 ∧ j = [])) ∧ (Q (.t [.r 6 0, .i 0]) (q42 s t u v w 0 k l m [[.n a, .n b, .n c, .n d], [.n e, .n f, .n g, .n h]] n o p q x))) : Prop)))) : PRun Tryz.prog 21 (q40 s t u v w 0 [[.l 1 [], .l 1 []], [.l 1 [], .l 1 []], [.l 1 [], .l 1 []], [.l 1 [], .l 1 []]]) [(q24 k l m [[.n a, .n b, .n c, .n d], [.n e, .n f, .n g, .n h]] n o p q), .r 0 0, .r 1 0, .r 2 0, .r 3 0, .r 4 0, .w 5, .nl 0] Q :=
 zok mixTn7 (gc := true) (H := ⟨[], [], [], [], [], false, 64, KN.no, true, ((spNew Tryz.prog 70 [51, 75]).or (zvf 72 (.nl 16) []))⟩) (n := 2) Tryz.func21 (by kernel_rfl) (c := zf5 Tryz.f21) (by kernel_rfl) (Eq.mp (by kernel_rfl) hh)
theorem S27 {f h q r s t i k l m o p b : Int} {g c : List (List U)} {d : List Int} {e X1 : Ob} (hh : dup2 (0 ≤ (4 : Int) ∧ (4 : Int) ≤ 1000000 ∧ (4 : Int) = (4 : Int) ∧ ((PRun Tryz.prog 21 (q40 a b c d e 0 [[.l 1 [], .l 1 []], [.l 1 [], .l 1 []], [.l 1 [], .l 1 []], [.l 1 [], .l 1 []]]) [(q24 f g h [[.n i, .n j, .n k, .n l], [.n m, .n n, .n o, .n p]] q r s t), .r 0 0, .r 1 0, .r 2 0, .r 3 0, .r 4 0, .w 5, .nl 0] (fun u v => u = .t [.r 6 0, .i 0] ∧ v = (q42 a b c d e 0 f g h [[.n i, .n j, .n k, .n l], [.n m, .n n, .n o, .n p]] q r s t X1))) ∧ (Q (.t [.r 4 0, .i 0]) (q41 a b c d e f g h [[.n i, .n j, .n k, .n l], [.n m, .n n, .n o, .n p]] q r s t 0 X1))))) : PRun Tryz.prog 27 (q33 a b c d e) [(q24 f g h [[.n i, .n j, .n k, .n l], [.n m, .n n, .n o, .n p]] q r s t), .r 0 0, .r 1 0, .r 2 0, .r 3 0] Q :=
 zok mixTn7 (gc := true) (H := ⟨[], [], [], [], [], false, 64, KN.no, true, (spKr 21 (.t [.r 6 0, .i 0]) [.c [.l 5 a, .i b], .c [.l 5 c, .n .i64 33 d], .o e, .c [.nl 4, .nm], .c [.nl 13, .i 0], .x, .c [.i f, .l 7 g, .i h, .l 4 [[.n i, .n j, .n k, .n l], [.n m, .n n, .n o, .n p]], .i q, .i r, .i s, .i t, .r 0 0, .r 1 0, .r 2 0, .r 3 0, .r 4 0, .r 7 0, .nl 16], .o X1])⟩) (n := 2) Tryz.func27 (by kernel_rfl) (c := zf5 Tryz.f27) (by kernel_rfl) (Eq.mp (by kernel_rfl) hh)
end
def unT : List U → Tm
 | [.i .i64 a, .i .i64 b, .i .i64 c] => (a, b, c)
 | _ => (0, 0, 0)
def ztf (rows : List (List U)) : List (List U) := (zfj (rows.map unT)).map rT
theorem zrf (L : List Tm) : ztf (L.map rT) = (zfj L).map rT := by
 have e : (L.map rT).map unT = L := by rw [zz9]; exact (List.map_congr_left (g := id) (fun x _ => rfl)).trans (List.map_id L)
 unfold ztf
 rw [e]
def apsR (args : List V) (m : Mem) : V × Mem :=
 match m with
 | [c, .w E sz rows] => (.w 2, [c, .w E sz rows, .w E sz rows])
 | _ => (.t [], [])
def srtR (args : List V) (m : Mem) : V × Mem :=
 match m with
 | [c, .w E sz rows] => (.w 2, [c, .w E sz rows, .w E sz (ztf rows)])
 | _ => (.t [], [])
section
set_option maxRecDepth 100000
theorem zr6 : Tryz.prog.follows .mixedOrders = true := by kernel_rfl
theorem S307 {c : List (List U)} (hh : ∃ (d : Int → List (List U) → Prop) (i : Int → List (List U) → Nat), d 0 [] ∧ (∀ a : Int, ∀ b : List (List U), d a b → (bif decide (a < (zyv c : Int)) then 0 ≤ a ∧ a < (zyv c : Int) ∧ (elL c a (fun e => dI .i64 (ug e 0) (fun f => dI .i64 (ug e 1) (fun g => dI .i64 (ug e 2) (fun h => zan b [[.n f, .n g, .n h]] ∧ (d (zyu .i64 (a + 1)) (b ++ [[.n f, .n g, .n h]]) ∧ i (zyu .i64 (a + 1)) (b ++ [[.n f, .n g, .n h]]) < i a b)))))) else Q (.w 2) [.c [.w 1], .w 103 3 c, .w 103 3 b]))) : PRun Tryz.prog 307 [.c [.w 1], .w 103 3 c] [.nl 0, .f 223 [] [.r 0 0]] Q :=
 zok zr6 (gc := true) (H := ⟨[((223, 1, 4), ⟨[(7, .I)], [(2, .c [.ow 103 3])]⟩)], [], [], [], [], true, 64, KN.no, true, SP.no⟩) (n := 3) Tryz.func307 (by kernel_rfl) (c := zf5 Tryz.f307) (by kernel_rfl) (Eq.mp (by kernel_rfl) hh)
theorem S221 (hh : (PRun Tryz.prog 307 [.c [.w 1], .w 103 3 a] [.nl 0, .f 223 [] [.r 0 0]] (fun b c => b = .w 2 ∧ c = [.c [.w 1], .w 103 3 a, .w 103 3 a])) ∧ (Q (.w 2) [.c [.w 1], .w 103 3 a, .w 103 3 a])) : PRun Tryz.prog 221 [.c [.w 1], .w 103 3 a] [.f 223 [] [.r 0 0]] Q :=
 zad zr6 Tryz.func221 (by kernel_rfl) (H := ⟨[], [], [], [], [], true, 64, KN.no, false, (spKg 307 apsR)⟩) (n := 2) (by kernel_rfl) hh
theorem S117 (hh : (PRun Tryz.prog 221 [.c [.w 1], .w 103 3 a] [.f 223 [] [.r 0 0]] (fun b c => b = .w 2 ∧ c = [.c [.w 1], .w 103 3 a, .w 103 3 a])) ∧ (PRun Tryz.prog 222 [.w 103 3 a] [.w 0, .f 119 [] []] (post [] [.row 103 3] (fun d => (Q (.w 2) [.c [.w 1], .w 103 3 a, .w 103 3 d] : Prop))))) : PRun Tryz.prog 117 [.c [.w 1], .w 103 3 a] [.f 223 [] [.r 0 0], .f 119 [] []] Q :=
 zad zr6 Tryz.func117 (by kernel_rfl) (H := ⟨[], [], [], [222], [(222, [], [.row 103 3])], true, 64, KN.no, false, (spKg 221 apsR)⟩) (n := 2) (by kernel_rfl) hh
theorem S44 {f : List (MK × List U)} {d : Int} (hh : (PRun Tryz.prog 117 [.c [.w 1], .w 103 3 a] [.f 223 [] [.r 0 0], .f 119 [] []] (fun b c => b = .w 2 ∧ c = [.c [.w 1], .w 103 3 a, .w 103 3 (ztf a)])) ∧ (Q (.l 3 (ztf a)) (q23 d e a f))) : PRun Tryz.prog 44 (q23 d e a f) [.r 0 0] Q :=
 zad zr6 Tryz.func44 (by kernel_rfl) (H := ⟨[], [], [116, 118], [], [], false, 64, KN.no, false, (spKg 117 srtR)⟩) (n := 3) (by kernel_rfl) hh
end
section
set_option maxRecDepth 1000000
variable {Q : V → Mem → Prop}
def movP (f t n : Int) (p : Tb) : Tb := if zgm f t n p = 0 then zwy f t n p else p
theorem movP_S {f t : Int} {p : Tb} {pn : Int} (hp : PInv p pn) (hl : p.length ≤ 800000) (K : ∀ e, PInv (movP f t n p) pn → (movP f t n p).length = p.length → Q (.i e) [pC (movP f t n p) pn]) : PRun Tryz.prog 89 [pC p pn] [.r 0 0, .i f, .i t, .i n] Q := by
 refine move_S hp (by omega) (fun he => ?_) fun he => ?_
 · have := K (zgm f t n p)
   unfold movP at this
   rw [if_neg he] at this
   exact this hp rfl
 · have := K 0
   unfold movP at this
   rw [if_pos he] at this
   exact this (hp.move he) (zwx hp.srt he)
theorem zj7 {x : K4} : ∀ {L : List Stk} {l l' : Tb}, Srt l → (L.Pairwise fun a b => a.1 < b.1) → zb5 x L l = some l' → ∀ s ∈ L, s.2 ≤ zam (bin x s.1) l
 | [], _, _, _, _, _, s, hs => by simp at hs
 | q :: r, l, l', hs, hpw, h, s, hm => by
   have hpw2 := zz5.1 hpw
   simp only [zb5] at h
   split at h
   · rename_i hq
     rcases zy3.1 hm with rfl | hm
     · exact hq
     · have := zj7 (zhq hs) hpw2.2 h s hm
       rw [zmi _ hs, if_neg fun e => ?_] at this
       · exact this
       · have h1 := hpw2.1 s hm
         have e' : s.1 = q.1 := congrArg K4.d e
         omega
   · cases h
theorem lock2_B {l : Tb} {fr : K4} {L : List Stk} (h : BInv l) (hl : l.length ≤ 800000) (hid : 1 ≤ id ∧ id < 1048576) (hL : L.length ≤ 1000) (hx : isB (bin fr 1) = true) (hc : zfe L 32 = 0)
 (k1 : (∃ s ∈ L, zam (bin fr s.1) l < s.2) → Q (.i 7) [bK l])
 (k2 : (∀ s ∈ L, s.2 ≤ zam (bin fr s.1) l) → ∀ l1, zb5 fr L l = some l1 → BInv l1 → BInv (zie (vK id fr.c) L l1) → (zie (vK id fr.c) L l1).length ≤ l.length + 2 * L.length → Q (.i 0) [bK (zie (vK id fr.c) L l1)]) : PRun Tryz.prog 87 [bK l] [.r 0 0, kV fr, .i 1, .i id, .l 2 (L.map eS)] Q := by
 by_cases hlie : ∀ s ∈ L, s.2 ≤ zam (bin fr s.1) l
 · exact lock_B h hl hid hL hx hc hlie (k2 hlie)
 · have hex : ∃ s ∈ L, zam (bin fr s.1) l < s.2 := by
    simp only [Classical.not_forall, Int.not_le] at hlie
    obtain ⟨s, hs, h2⟩ := hlie
    exact ⟨s, hs, h2⟩
   refine S87 (zp2 hid ?_)
   rw [zb1]
   refine cNe (fun h => absurd rfl h) fun _ => zni h (by omega) hL (fun hb => ?_) (fun _ _ hb => ?_) fun l' _ _ hb hi hln => ?_
   · rcases hb with hb | hb
     · rw [hx] at hb; cases hb
     · exact absurd hc hb
   · rw [zds]
     exact cNe (fun _ => cNe (fun _ => k1 hex) fun h => absurd h (by decide)) fun h => absurd h (by decide)
   · exact absurd (zj7 h.srt (zjb hc) hb) hlie
end
section
set_option maxRecDepth 100000
theorem zr5 : Tryz.prog.follows .mixedOrders = true := by kernel_rfl
theorem S29e1 {b d f g h i k q β s t u v w x y α : Int} {c e j l p : List (List U)} {m : List Int} {n o r : Ob} (hh : (PRun Tryz.prog 84 (q21 b c d e f g h i j k l m n o p q r a s t u v w x y α 0 0 0 0 0 0 0 0 0 0 0 0 0 0 0 0 [] 0 0 0 (zyu .i64 ((zyv a : Int) + 1)) x t u s v w y α 0 0 [] 1 0 0 0 0) [.r 0 0, .i β, .r 8 0] (fun γ δ => γ = .i (Int.ofNat (ek + 1)) ∧ δ = [.c [.i b, .l 7 c, .i d, .l 4 e, .i f, .i g, .i h, .i i, .r 1 0, .r 2 0, .r 3 0, .r 4 0, .r 5 0, .r 6 0, .w 7], .c [.l 5 j, .i k], .c [.l 5 l, .n .i64 33 m], .o n, .o o, .c [.l 13 p, .i q], .o r, .w 48 16 a, .x])) ∧ (Q (.t [.i 0, .i (Int.ofNat (ek + 1))]) (q14 b c d e f g h i j k l m n o p q r a))) : PRun Tryz.prog 29 (q14 b c d e f g h i j k l m n o p q r a) [.r 0 0, .i β, .a [.i s, .i t, .i u, .i v, .i w, .i x, .i y, .i α]] Q :=
 zad zr5 Tryz.func29 (by kernel_rfl) (H := ⟨[], [], [41], [], [], false, 64, KN.no, false, ((((zvf 84 (.i (Int.ofNat (ek + 1))) [.c [.i b, .l 7 c, .i d, .l 4 e, .i f, .i g, .i h, .i i, .r 1 0, .r 2 0, .r 3 0, .r 4 0, .r 5 0, .r 6 0, .w 7], .c [.l 5 j, .i k], .c [.l 5 l, .n .i64 33 m], .o n, .o o, .c [.l 13 p, .i q], .o r, .w 48 16 a, .x]).or (spFl 85)).or (spFl 86)).or (spFl 87))⟩) (n := 3) (by kernel_rfl) hh
theorem S29e2 {l o p q s y δ b c d f g h i n_place n_make n_lab n_rate e_id e_own e_div e_place e_blue e_me e_te e_runs e_busy b_makes b_per b_time b_copy b_study b_most money : Int} {k m t x b_needs : List (List U)} {u : List Int} {v w α : Ob} (hh : (PRun Tryz.prog 84 (q21 j k l m n o p q r s t u v w x y α a b c d e f g h i 0 0 0 0 0 0 0 0 0 0 0 0 0 0 0 0 [] 0 0 0 (zyu .i64 ((zyv a : Int) + 1)) g c d b e f h i 0 0 [] 1 0 0 0 0) [.r 0 0, .i δ, .r 8 0] (fun β γ => β = .i 0 ∧ γ = (q21 j k l m n o p q r s t u v w x y α a b c d e f g h i n_place n_make n_lab n_rate e_id e_own e_div e_place e_blue e_me e_te e_runs e_busy b_makes b_per b_time b_needs b_copy b_study b_most (zyu .i64 ((zyv a : Int) + 1)) g c d b e f h i 0 0 [] 1 0 0 0 money))) ∧ ((PRun Tryz.prog 85 (q21 j k l m n o p q r s t u v w x y α a b c d e f g h i n_place n_make n_lab n_rate e_id e_own e_div e_place e_blue e_me e_te e_runs e_busy b_makes b_per b_time b_needs b_copy b_study b_most (zyu .i64 ((zyv a : Int) + 1)) g c d b e f h i 0 0 [] 1 0 0 0 money) [.r 0 0, .r 8 0] (fun β γ => β = .i (Int.ofNat (ek + 1)) ∧ γ = [.c [.i j, .l 7 k, .i l, .l 4 m, .i n, .i o, .i p, .i q, .r 1 0, .r 2 0, .r 3 0, .r 4 0, .r 5 0, .r 6 0, .w 7], .c [.l 5 r, .i s], .c [.l 5 t, .n .i64 33 u], .o v, .o w, .c [.l 13 x, .i y], .o α, .w 48 16 a, .x])) ∧ (Q (.t [.i 0, .i (Int.ofNat (ek + 1))]) (q14 j k l m n o p q r s t u v w x y α a)))) : PRun Tryz.prog 29 (q14 j k l m n o p q r s t u v w x y α a) [.r 0 0, .i δ, .a [.i b, .i c, .i d, .i e, .i f, .i g, .i h, .i i]] Q :=
 zad zr5 Tryz.func29 (by kernel_rfl) (H := ⟨[], [], [41], [], [], false, 64, KN.no, false, ((((zvf 84 (.i 0) [.c [.i j, .l 7 k, .i l, .l 4 m, .i n, .i o, .i p, .i q, .r 1 0, .r 2 0, .r 3 0, .r 4 0, .r 5 0, .r 6 0, .w 7], .c [.l 5 r, .i s], .c [.l 5 t, .n .i64 33 u], .o v, .o w, .c [.l 13 x, .i y], .o α, .w 48 16 a, .c [.i b, .i c, .i d, .i e, .i f, .i g, .i h, .i i, .i n_place, .i n_make, .i n_lab, .i n_rate, .i e_id, .i e_own, .i e_div, .i e_place, .i e_blue, .i e_me, .i e_te, .i e_runs, .i e_busy, .i b_makes, .i b_per, .i b_time, .l 2 b_needs, .i b_copy, .i b_study, .i b_most, .i (zyu .i64 ((zyv a : Int) + 1)), .i g, .i c, .i d, .i b, .i e, .i f, .i h, .i i, .i 0, .i 0, .l 2 [], .i 1, .i 0, .i 0, .i 0, .i money]]).or (zvf 85 (.i (Int.ofNat (ek + 1))) [.c [.i j, .l 7 k, .i l, .l 4 m, .i n, .i o, .i p, .i q, .r 1 0, .r 2 0, .r 3 0, .r 4 0, .r 5 0, .r 6 0, .w 7], .c [.l 5 r, .i s], .c [.l 5 t, .n .i64 33 u], .o v, .o w, .c [.l 13 x, .i y], .o α, .w 48 16 a, .x])).or (spFl 86)).or (spFl 87))⟩) (n := 3) (by kernel_rfl) hh
theorem S29e3 {l o p q s y δ b c d f g h i n_place n_make n_lab n_rate e_id e_own e_div e_place e_blue e_me e_te e_runs e_busy b_makes b_per b_time b_copy b_study b_most money : Int} {k m t x b_needs : List (List U)} {u : List Int} {v w α : Ob} (hh : (PRun Tryz.prog 84 (q21 j k l m n o p q r s t u v w x y α a b c d e f g h i 0 0 0 0 0 0 0 0 0 0 0 0 0 0 0 0 [] 0 0 0 (zyu .i64 ((zyv a : Int) + 1)) g c d b e f h i 0 0 [] 1 0 0 0 0) [.r 0 0, .i δ, .r 8 0] (fun β γ => β = .i 0 ∧ γ = (q21 j k l m n o p q r s t u v w x y α a b c d e f g h i n_place n_make n_lab n_rate e_id e_own e_div e_place e_blue e_me e_te e_runs e_busy b_makes b_per b_time b_needs b_copy b_study b_most (zyu .i64 ((zyv a : Int) + 1)) g c d b e f h i 0 0 [] 1 0 0 0 money))) ∧ ((PRun Tryz.prog 85 (q21 j k l m n o p q r s t u v w x y α a b c d e f g h i n_place n_make n_lab n_rate e_id e_own e_div e_place e_blue e_me e_te e_runs e_busy b_makes b_per b_time b_needs b_copy b_study b_most (zyu .i64 ((zyv a : Int) + 1)) g c d b e f h i 0 0 [] 1 0 0 0 money) [.r 0 0, .r 8 0] (fun β γ => β = .i 0 ∧ γ = (q21 j k l m n o p q r s t u v w x y α a b c d e f g h i n_place n_make n_lab n_rate e_id e_own e_div e_place e_blue e_me e_te e_runs e_busy b_makes b_per b_time b_needs b_copy b_study b_most (zyu .i64 ((zyv a : Int) + 1)) g c d b e f h i 0 0 [] 1 0 0 0 money))) ∧ ((PRun Tryz.prog 86 (q28 b c d e f g h i n_place n_make n_lab n_rate e_id e_own e_div e_place e_blue e_me e_te e_runs e_busy b_makes b_per b_time b_needs b_copy b_study b_most (zyu .i64 ((zyv a : Int) + 1)) g c d b e f h i 0 0 [] 1 0 0 0 money) [.r 0 0] (fun β γ => β = .i (Int.ofNat (ek + 1)) ∧ γ = [.x])) ∧ (Q (.t [.i 0, .i (Int.ofNat (ek + 1))]) (q14 j k l m n o p q r s t u v w x y α a))))) : PRun Tryz.prog 29 (q14 j k l m n o p q r s t u v w x y α a) [.r 0 0, .i δ, .a [.i b, .i c, .i d, .i e, .i f, .i g, .i h, .i i]] Q :=
 zad zr5 Tryz.func29 (by kernel_rfl) (H := ⟨[], [], [41], [], [], false, 64, KN.no, false, ((((zvf 84 (.i 0) [.c [.i j, .l 7 k, .i l, .l 4 m, .i n, .i o, .i p, .i q, .r 1 0, .r 2 0, .r 3 0, .r 4 0, .r 5 0, .r 6 0, .w 7], .c [.l 5 r, .i s], .c [.l 5 t, .n .i64 33 u], .o v, .o w, .c [.l 13 x, .i y], .o α, .w 48 16 a, .c [.i b, .i c, .i d, .i e, .i f, .i g, .i h, .i i, .i n_place, .i n_make, .i n_lab, .i n_rate, .i e_id, .i e_own, .i e_div, .i e_place, .i e_blue, .i e_me, .i e_te, .i e_runs, .i e_busy, .i b_makes, .i b_per, .i b_time, .l 2 b_needs, .i b_copy, .i b_study, .i b_most, .i (zyu .i64 ((zyv a : Int) + 1)), .i g, .i c, .i d, .i b, .i e, .i f, .i h, .i i, .i 0, .i 0, .l 2 [], .i 1, .i 0, .i 0, .i 0, .i money]]).or (zvf 85 (.i 0) [.c [.i j, .l 7 k, .i l, .l 4 m, .i n, .i o, .i p, .i q, .r 1 0, .r 2 0, .r 3 0, .r 4 0, .r 5 0, .r 6 0, .w 7], .c [.l 5 r, .i s], .c [.l 5 t, .n .i64 33 u], .o v, .o w, .c [.l 13 x, .i y], .o α, .w 48 16 a, .c [.i b, .i c, .i d, .i e, .i f, .i g, .i h, .i i, .i n_place, .i n_make, .i n_lab, .i n_rate, .i e_id, .i e_own, .i e_div, .i e_place, .i e_blue, .i e_me, .i e_te, .i e_runs, .i e_busy, .i b_makes, .i b_per, .i b_time, .l 2 b_needs, .i b_copy, .i b_study, .i b_most, .i (zyu .i64 ((zyv a : Int) + 1)), .i g, .i c, .i d, .i b, .i e, .i f, .i h, .i i, .i 0, .i 0, .l 2 [], .i 1, .i 0, .i 0, .i 0, .i money]])).or (zvf 86 (.i (Int.ofNat (ek + 1))) [.x])).or (spFl 87))⟩) (n := 3) (by kernel_rfl) hh
theorem S29e0 {l o p q u s ε c d f b g h i n_place n_make n_lab n_rate e_id e_own e_div e_place e_blue e_me e_te e_runs e_busy b_makes b_per b_time b_copy b_study b_most money t_time t_fee : Int} {k m t y b_needs t_needs : List (List U)} {α : List Int} {v w x : Ob} (hh : (PRun Tryz.prog 84 (q21 j k l m n o p q t u y α v w r s x a c d e f b g h i 0 0 0 0 0 0 0 0 0 0 0 0 0 0 0 0 [] 0 0 0 (zyu .i64 ((zyv a : Int) + 1)) g d e c f b h i 0 0 [] 1 0 0 0 0) [.r 0 0, .i ε, .r 8 0] (fun β γ => β = .i 0 ∧ γ = (q21 j k l m n o p q t u y α v w r s x a c d e f b g h i n_place n_make n_lab n_rate e_id e_own e_div e_place e_blue e_me e_te e_runs e_busy b_makes b_per b_time b_needs b_copy b_study b_most (zyu .i64 ((zyv a : Int) + 1)) g d e c f b h i 0 0 [] 1 0 0 0 money))) ∧ ((PRun Tryz.prog 85 (q21 j k l m n o p q t u y α v w r s x a c d e f b g h i n_place n_make n_lab n_rate e_id e_own e_div e_place e_blue e_me e_te e_runs e_busy b_makes b_per b_time b_needs b_copy b_study b_most (zyu .i64 ((zyv a : Int) + 1)) g d e c f b h i 0 0 [] 1 0 0 0 money) [.r 0 0, .r 8 0] (fun β γ => β = .i 0 ∧ γ = (q21 j k l m n o p q t u y α v w r s x a c d e f b g h i n_place n_make n_lab n_rate e_id e_own e_div e_place e_blue e_me e_te e_runs e_busy b_makes b_per b_time b_needs b_copy b_study b_most (zyu .i64 ((zyv a : Int) + 1)) g d e c f b h i 0 0 [] 1 0 0 0 money))) ∧ ((PRun Tryz.prog 86 (q28 c d e f b g h i n_place n_make n_lab n_rate e_id e_own e_div e_place e_blue e_me e_te e_runs e_busy b_makes b_per b_time b_needs b_copy b_study b_most (zyu .i64 ((zyv a : Int) + 1)) g d e c f b h i 0 0 [] 1 0 0 0 money) [.r 0 0] (fun β γ => β = .i 0 ∧ γ = (q28 c d e f b g h i n_place n_make n_lab n_rate e_id e_own e_div e_place e_blue e_me e_te e_runs e_busy b_makes b_per b_time b_needs b_copy b_study b_most (zyu .i64 ((zyv a : Int) + 1)) g d e c f b h i t_time t_fee t_needs 1 0 0 t_time money))) ∧ (bif decide (money < t_fee) then Q (.t [.i 0, .i 6]) (q14 j k l m n o p q t u y α v w r s x a) else dup2 (PRun Tryz.prog 180 [] [.a [.i j, .l 7 k, .i l, .l 4 m, .i n, .i o, .i p, .i q], .i f] (post q8 [] (fun μ b2 b3 b4 b5 => (PRun Tryz.prog 87 (q15 y α) [.r 0 0, .a [.i d, .i e, .i μ, .i 1], .i 1, .i (zyu .i64 ((zyv a : Int) + 1)), .l 2 t_needs] (post q7 q3 (fun ζ η θ => (bif ζ != 0 then Q (.t [.i 0, .i ζ]) (q14 j k l m n o p q t u η θ v w r s x a) else PRun Tryz.prog 89 [.c [.l 5 t, .i u]] [.r 0 0, .i c, .i 0, .i t_fee] (post q7 q9 (fun b6 ν ξ => ∀ δ : List (List U) → Int → Prop, (∀ ι : List (List U), ∀ κ : Int, (zan a [[.n (zyu .i64 ((zyv a : Int) + 1)), .n g, .n d, .n e, .n c, .n f, .n b, .n h, .n i, .n t_time, .n t_fee, .l 2 t_needs, .n 1, .n 0, .n 0, .n t_time]] ∧ (PRun Tryz.prog 92 (q14 j k l m n o p q ν ξ η θ v w ι κ x (a ++ [[.n (zyu .i64 ((zyv a : Int) + 1)), .n g, .n d, .n e, .n c, .n f, .n b, .n h, .n i, .n t_time, .n t_fee, .l 2 t_needs, .n 1, .n 0, .n 0, .n t_time]])) [.r 0 0, .a [.i (zyu .i64 ((zyv a : Int) + 1)), .i g, .i d, .i e, .i c, .i f, .i b, .i h, .i i, .i t_time, .i t_fee, .l 2 t_needs, .i 1, .i 0, .i 0, .i t_time], .i ε] (post [] q1 (fun ο π ρ σ τ υ φ χ ψ ω a0 a1 a2 a3 a4 a5 a6 a7 => (Q (.t [.i (zyu .i64 ((zyv a : Int) + 1)), .i 0]) (q18 ο π ρ σ τ υ φ χ ω a0 a1 a2 a3 a4 a5 a6 a7 ψ) : Prop))))) → δ ι κ) → (bif g == 1 then PRun Tryz.prog 90 [.c [.l 13 r, .i s]] [.r 0 0, .i b, .i (zyu .i64 ((zyv a : Int) + 1)), .i h] (post q7 q4 (fun b7 a8 a9 => (δ a8 a9 : Prop))) else PRun Tryz.prog 90 [.c [.l 13 r, .i s]] [.r 0 0, .i b, .i (zyu .i64 ((zyv a : Int) + 1)), .i 0] (post q7 q4 (fun b8 b0 b1 => (δ b0 b1 : Prop)))))) : Prop))) : Prop)))))))) : PRun Tryz.prog 29 (q14 j k l m n o p q t u y α v w r s x a) [.r 0 0, .i ε, .a [.i c, .i d, .i e, .i f, .i b, .i g, .i h, .i i]] Q :=
 zad zr5 Tryz.func29 (by kernel_rfl) (H := ⟨[], [((29, 19, 10), ⟨[], [(5, .c [.l 13, .i .i64])]⟩)], [41, 88, 91], [], [], false, 64, KN.no, false, (((zvf 84 (.i 0) [.c [.i j, .l 7 k, .i l, .l 4 m, .i n, .i o, .i p, .i q, .r 1 0, .r 2 0, .r 3 0, .r 4 0, .r 5 0, .r 6 0, .w 7], .c [.l 5 t, .i u], .c [.l 5 y, .n .i64 33 α], .o v, .o w, .c [.l 13 r, .i s], .o x, .w 48 16 a, .c [.i c, .i d, .i e, .i f, .i b, .i g, .i h, .i i, .i n_place, .i n_make, .i n_lab, .i n_rate, .i e_id, .i e_own, .i e_div, .i e_place, .i e_blue, .i e_me, .i e_te, .i e_runs, .i e_busy, .i b_makes, .i b_per, .i b_time, .l 2 b_needs, .i b_copy, .i b_study, .i b_most, .i (zyu .i64 ((zyv a : Int) + 1)), .i g, .i d, .i e, .i c, .i f, .i b, .i h, .i i, .i 0, .i 0, .l 2 [], .i 1, .i 0, .i 0, .i 0, .i money]]).or (zvf 85 (.i 0) [.c [.i j, .l 7 k, .i l, .l 4 m, .i n, .i o, .i p, .i q, .r 1 0, .r 2 0, .r 3 0, .r 4 0, .r 5 0, .r 6 0, .w 7], .c [.l 5 t, .i u], .c [.l 5 y, .n .i64 33 α], .o v, .o w, .c [.l 13 r, .i s], .o x, .w 48 16 a, .c [.i c, .i d, .i e, .i f, .i b, .i g, .i h, .i i, .i n_place, .i n_make, .i n_lab, .i n_rate, .i e_id, .i e_own, .i e_div, .i e_place, .i e_blue, .i e_me, .i e_te, .i e_runs, .i e_busy, .i b_makes, .i b_per, .i b_time, .l 2 b_needs, .i b_copy, .i b_study, .i b_most, .i (zyu .i64 ((zyv a : Int) + 1)), .i g, .i d, .i e, .i c, .i f, .i b, .i h, .i i, .i 0, .i 0, .l 2 [], .i 1, .i 0, .i 0, .i 0, .i money]])).or (zvf 86 (.i 0) [.c [.i c, .i d, .i e, .i f, .i b, .i g, .i h, .i i, .i n_place, .i n_make, .i n_lab, .i n_rate, .i e_id, .i e_own, .i e_div, .i e_place, .i e_blue, .i e_me, .i e_te, .i e_runs, .i e_busy, .i b_makes, .i b_per, .i b_time, .l 2 b_needs, .i b_copy, .i b_study, .i b_most, .i (zyu .i64 ((zyv a : Int) + 1)), .i g, .i d, .i e, .i c, .i f, .i b, .i h, .i i, .i t_time, .i t_fee, .l 2 t_needs, .i 1, .i 0, .i 0, .i t_time, .i money]]))⟩) (n := 3) (by kernel_rfl) hh
end
def isRow (x : Int) : List U → Bool
 | [.i .i64 y] => y == x
 | _ => false
def delR (args : List V) (m : Mem) : V × Mem :=
 match m with
 | [.w E sz rows, .c [.u (.i .i64 x)]] => (.w 2, [.x, .c [.i x], .w E sz (rows.filter fun r => !isRow x r)])
 | _ => (.t [], [])
section
set_option maxRecDepth 100000
theorem mixTa6 : Tryz.prog.follows .mixedOrders = true := by kernel_rfl
theorem S160s (hh : zan [] [[.n 1]] ∧ (zan [] [[.n 3]] ∧ (0 ≤ (3 : Int) ∧ (3 : Int) < (65 : Int) ∧ (0 ≤ (3 : Int) ∧ (3 : Int) < (65 : Int) ∧ (zan [[.n 1]] [[.n 2]] ∧ (zan [] [[.n 3]] ∧ (0 ≤ (3 : Int) ∧ (3 : Int) < (65 : Int) ∧ (0 ≤ (3 : Int) ∧ (3 : Int) < (65 : Int) ∧ (zan [] [[.n 3]] ∧ (zan [] [[.n 4]] ∧ (0 ≤ (4 : Int) ∧ (4 : Int) < (65 : Int) ∧ (0 ≤ (4 : Int) ∧ (4 : Int) < (65 : Int) ∧ (0 ≤ (1 : Int) ∧ (1 : Int) < (65 : Int) ∧ (zan [] [[.n 1]] ∧ (0 ≤ (2 : Int) ∧ (2 : Int) < (65 : Int) ∧ (zan [[.n 1]] [[.n 2]] ∧ (0 ≤ (3 : Int) ∧ (3 : Int) < (65 : Int) ∧ (0 ≤ (4 : Int) ∧ (4 : Int) < (65 : Int) ∧ (0 ≤ (0 : Int) ∧ (0 : Int) < 2 ∧ (0 ≤ (1 : Int) ∧ (1 : Int) < 2 ∧ ((PRun Tryz.prog 304 [.w 3 1 [[.n 1], [.n 2]], .c [.i 1]] [.w 0, .f 370 [] [.r 1 0]] (fun a b => a = .w 2 ∧ b = [.x, .c [.i 1], .w 3 1 [[.n 2]]])) ∧ (zan [] [[.n 1]] ∧ (0 ≤ (0 : Int) ∧ (0 : Int) < 1 ∧ (0 ≤ (3 : Int) ∧ (3 : Int) < (65 : Int) ∧ (0 ≤ (3 : Int) ∧ (3 : Int) < (65 : Int) ∧ (0 ≤ (3 : Int) ∧ (3 : Int) < (65 : Int) ∧ (0 ≤ (0 : Int) ∧ (0 : Int) < 1 ∧ ((PRun Tryz.prog 304 [.w 3 1 [[.n 2]], .c [.i 2]] [.w 0, .f 370 [] [.r 1 0]] (fun a b => a = .w 2 ∧ b = [.x, .c [.i 2], .w 3 1 []])) ∧ (zan [[.n 1]] [[.n 2]] ∧ (0 ≤ (0 : Int) ∧ (0 : Int) < 1 ∧ (0 ≤ (3 : Int) ∧ (3 : Int) < (65 : Int) ∧ (0 ≤ (3 : Int) ∧ (3 : Int) < (65 : Int) ∧ (0 ≤ (3 : Int) ∧ (3 : Int) < (65 : Int) ∧ (zan [] [[.n 3]] ∧ (0 ≤ (0 : Int) ∧ (0 : Int) < 1 ∧ ((PRun Tryz.prog 304 [.w 3 1 [[.n 3]], .c [.i 3]] [.w 0, .f 370 [] [.r 1 0]] (fun a b => a = .w 2 ∧ b = [.x, .c [.i 3], .w 3 1 []])) ∧ (zan [[.n 1], [.n 2]] [[.n 3]] ∧ (0 ≤ (0 : Int) ∧ (0 : Int) < 1 ∧ (0 ≤ (4 : Int) ∧ (4 : Int) < (65 : Int) ∧ (0 ≤ (4 : Int) ∧ (4 : Int) < (65 : Int) ∧ (0 ≤ (4 : Int) ∧ (4 : Int) < (65 : Int) ∧ (zan [] [[.n 4]] ∧ (0 ≤ (0 : Int) ∧ (0 : Int) < 1 ∧ ((PRun Tryz.prog 304 [.w 3 1 [[.n 4]], .c [.i 4]] [.w 0, .f 370 [] [.r 1 0]] (fun a b => a = .w 2 ∧ b = [.x, .c [.i 4], .w 3 1 []])) ∧ (zan [[.n 1], [.n 2], [.n 3]] [[.n 4]] ∧ (0 ≤ (4 : Int) ∧ (4 : Int) ≤ 1000000 ∧ (4 : Int) = (4 : Int) ∧ (0 ≤ (0 : Int) ∧ (0 : Int) < 4 ∧ (0 ≤ (1 : Int) ∧ (1 : Int) < 4 ∧ (0 ≤ (2 : Int) ∧ (2 : Int) < 4 ∧ (0 ≤ (0 : Int) ∧ (0 : Int) < 2 ∧ (0 ≤ (2 : Int) ∧ (2 : Int) < 4 ∧ (0 ≤ (0 : Int) ∧ (0 : Int) < 4 ∧ (0 ≤ (2 : Int) ∧ (2 : Int) < 4 ∧ (0 ≤ (1 : Int) ∧ (1 : Int) < 2 ∧ (0 ≤ (2 : Int) ∧ (2 : Int) < 4 ∧ (0 ≤ (1 : Int) ∧ (1 : Int) < 4 ∧ (0 ≤ (2 : Int) ∧ (2 : Int) < 4 ∧ (0 ≤ (3 : Int) ∧ (3 : Int) < 4 ∧ (0 ≤ (0 : Int) ∧ (0 : Int) < 1 ∧ (0 ≤ (3 : Int) ∧ (3 : Int) < 4 ∧ (0 ≤ (2 : Int) ∧ (2 : Int) < 4 ∧ (0 ≤ (3 : Int) ∧ (3 : Int) < 4 ∧ (Q (.t [.l 1 [[.n 0], [.n 0], [.n 1], [.n 2]], .i 0]) []))))))))))))))))))))))))))))))))))))))))))))))))))))))))))))))) : PRun Tryz.prog 160 [] [.i 4, .l 2 [[.n 3, .n 1], [.n 3, .n 2], [.n 4, .n 3]]] Q :=
 zad mixTa6 Tryz.func160 (by kernel_rfl) (H := ⟨[], [], [275, 337, 338, 368, 369], [], [], false, 64, KN.no, false, (spKg 304 delR)⟩) (n := 5) (by kernel_rfl) hh
theorem S69s {f g h : Int} (hh : PRun Tryz.prog 270 [] [(q22 3 2 10 [[.n 1, .n 3], [.n 2, .n 1]] 2 3 5), .i 4] (post q7 [] (fun k => (bif k != 0 then Q (.i 1) [] else PRun Tryz.prog 270 [] [(q22 4 1 7 [[.n 3, .n 2]] 0 0 3), .i 4] (post q7 [] (fun l => (bif l != 0 then Q (.i 1) [] else (bif decide (f ≥ 0) then (bif !(decide (f ≤ 8)) then Q (.i 1) [] else (bif decide (g ≥ 1) then (bif !(decide (g ≤ 2)) then Q (.i 1) [] else (bif decide (h ≥ 0) then (bif !(decide (h ≤ 8)) then Q (.i 1) [] else zan [] [[.n 3, .n 1]] ∧ (zan [[.n 3, .n 1]] [[.n 3, .n 2]] ∧ (zan [[.n 3, .n 1], [.n 3, .n 2]] [[.n 4, .n 3]] ∧ (PRun Tryz.prog 160 [] [.i 4, .l 2 [[.n 3, .n 1], [.n 3, .n 2], [.n 4, .n 3]]] (post [.L 1, .I] [] (fun c i => (bif i != 0 then Q (.i i) [] else (bif decide ((zyv c : Int) < 1) then False else elL c 0 (fun m => dI .i64 (ug m 0) (fun n => ∃ (e : Int → Int → Prop) (j : Int → Int → Nat), e n 1 ∧ (∀ a b : Int, e a b → (bif decide (b < (zyv c : Int)) then elL c b (fun o => dI .i64 (ug o 0) (fun d => e (if d > a then d else a) (zyu .i64 (b + 1)) ∧ j (if d > a then d else a) (zyu .i64 (b + 1)) < j a b)) else (bif decide (a > 8) then Q (.i 5) [] else Q (.i 0) [])))))) : Prop))))))) else Q (.i 1) [])) else Q (.i 1) [])) else Q (.i 1) []) : Prop))) : Prop)))) : PRun Tryz.prog 69 [] [(q24 4 [[.n 3, .n 2, .n 10, .l 2 [[.n 1, .n 3], [.n 2, .n 1]], .n 2, .n 3, .n 5], [.n 4, .n 1, .n 7, .l 2 [[.n 3, .n 2]], .n 0, .n 0, .n 3]] 2 [[.n 1, .n f, .n 1, .n 1000], [.n g, .n 1, .n h, .n 0]] 3 200 1 500)] Q :=
 zad mixTa6 Tryz.func69 (by kernel_rfl) (H := ⟨[((162, 5, 8), ⟨[(3, .I), (4, .I)], []⟩)], [], [159, 161, 162, 268, 269, 271, 272, 273, 274, 287, 334, 335, 336], [], [], false, 64, KN.no, false, SP.no⟩) (n := 7) (by kernel_rfl) hh
end
section
set_option maxRecDepth 1000000
open Go.Lib
variable {Q : V → Mem → Prop}
abbrev nV (l : List Int) : List Value := l.map (Value.int .i64)
theorem zbd (b : Nat) {T : TypeId} : ∀ (vs : List Value) (o : Nat) (w : World) (l : List Value), w.heap[b]? = some (.cells l.toArray T (0, 0)) → o + vs.length ≤ l.length →
 (w.setCells b o vs).heap[b]? = some (.cells (l.take o ++ vs ++ l.drop (o + vs.length)).toArray T (0, 0)) ∧ (∀ i, i ≠ b → (w.setCells b o vs).heap[i]? = w.heap[i]?) ∧ (w.setCells b o vs).heap.size = w.heap.size ∧ Same w (w.setCells b o vs)
 | [], o, w, l, h, ho => by
   refine ⟨?_, fun _ _ => rfl, rfl, Same.refl _⟩
   rw [zzw, z0z, z0y, z0h]
   exact h
 | v :: r, o, w, l, h, ho => by
   have hol : o < l.length := by simp at ho; omega
   have e1 : (w.setCell ⟨b, o, none⟩ v).heap[b]? = some (.cells (l.set o v).toArray T (0, 0)) := by
    show (w.heap.modify b _)[b]? = _
    rw [z1y, if_pos rfl, h]
    simp
   have e2 : ∀ i, i ≠ b → (w.setCell ⟨b, o, none⟩ v).heap[i]? = w.heap[i]? := fun i hi => by
    show (w.heap.modify b _)[i]? = _
    rw [z1y, if_neg (Ne.symm hi)]
   obtain ⟨g1, g2, g3, g4⟩ := zbd b r (o + 1) (w.setCell ⟨b, o, none⟩ v) (l.set o v) e1 (by simp at ho ⊢; omega)
   refine ⟨?_, fun i hi => (g2 i hi).trans (e2 i hi), g3.trans (by simp), ?_⟩
   · show ((w.setCell ⟨b, o, none⟩ v).setCells b (o + 1) r).heap[b]? = _
     rw [g1]
     congr 3
     rw [z05, zz3 hol, List.take_set_of_le (zy9 o), List.drop_set_of_lt (by omega)]
     simp only [Option.toList_some, zy8, zzg, zz6, zz7]
     rw [show o + 1 + r.length = o + (r.length + 1) by omega]
   · show Same w ((w.setCell ⟨b, o, none⟩ v).setCells b (o + 1) r)
     exact Same.trans (b := w.setCell ⟨b, o, none⟩ v) ⟨rfl, rfl, rfl, zy9 _⟩ g4
theorem own_of {ps : List Value} {b c : Nat} (hc : l.length + ps.length = c) (hM : c ≤ 9223372036854775807) : Own D iT 1 (some ⟨b, 0, none⟩) c (l.map eI) [(b, .cells (nV l ++ ps).toArray iT (0, 0))] := by
 have key : ∀ (i j : Nat) (r : List U) (u : U), (l.map eI)[i]? = some r → r[j]? = some u → ∃ x, l[i]? = some x ∧ j = 0 ∧ u = .n x := fun i j r u hi hj => by
  rw [zy5] at hi
  obtain ⟨x, hx, rfl⟩ := z0e.1 hi
  cases j with
  | succ j => simp [eI] at hj
  | zero =>
    simp only [eI, z2u, Option.some.injEq] at hj
    exact ⟨x, hx, rfl, hj.symm⟩
 refine .row b c _ _ (fun i j => match l[i]? with | some x => .int .i64 x | none => undef) (by simp; omega) ⟨by simp; omega, hM⟩ (fun r hr => by obtain ⟨x, -, rfl⟩ := zzu.1 hr; rfl) (fun i j r u hi hj => ?_) (fun i j r u hi hj => ?_)
 · obtain ⟨x, hx, rfl, rfl⟩ := key i j r u hi hj
   have hil := (zyz.1 hx).1
   simp only [hx, Nat.mul_one, z0y, z0a]
   rw [zy7 (by simpa using hil), zy5, hx]
   rfl
 · obtain ⟨x, hx, rfl, rfl⟩ := key i j r u hi hj
   simp only [hx]
   exact .int _ _
theorem own_to {a : Option Addr} {c : Nat} {ch : zac} (o : Own D iT 1 a c (l.map eI) ch) : (l = [] ∧ c = 0 ∧ ch = []) ∨ ∃ b ps, a = some ⟨b, 0, none⟩ ∧ ch = [(b, .cells (nV l ++ ps).toArray iT (0, 0))] ∧ l.length + ps.length = c ∧ c ≤ 9223372036854775807 := by
 generalize hr : l.map eI = rows at o
 cases o with
 | nil => exact .inl ⟨by simpa using hr, rfl, rfl⟩
 | row b c arr rows v h1 h2 h3 h4 h5 =>
   subst hr
   have hl : l.length ≤ c := by simpa using h2.1
   refine .inr ⟨b, arr.toList.drop l.length, rfl, ?_, ?_, h2.2⟩
   · have : nV l = arr.toList.take l.length := by
      apply z1a
      intro i
      rw [zy5]
      by_cases hi : i < l.length
      · have hg := zy0 hi
        have hm : (l.map eI)[i]? = some (eI l[i]) := by rw [zy5, hg]; rfl
        have k1 := h4 i 0 _ (.n l[i]) hm rfl
        have k2 := h5 i 0 _ (.n l[i]) hm rfl
        rw [Rd.int_iff.1 k2] at k1
        rw [hg, z0l, if_pos hi]
        simpa using k1.symm
      · rw [z0m (by omega), z0l, if_neg hi]; rfl
     rw [this, z0h]
   · have : arr.toList.length = c := by simpa using h1
     rw [z1j, this]
     omega
theorem insCall : zbh Tryz.prog 343 := ⟨Tryz.f343, Tryz.func343, by kernel_rfl, by kernel_rfl⟩
theorem ziq (l : List Int) : ∀ v ∈ nV l, v.oneCell' = true := fun v hv => by
 obtain ⟨x, -, rfl⟩ := zzu.1 hv
 rfl
theorem zq4 {n c : Nat} (h : n ≤ c) : n + (Builtin.zeroCells (Value.int .i64 0).cells (c - n)).size = c := by
 simp only [Builtin.zeroCells, Array.size_map, Array.size_range]
 show n + (c - n) * 1 = c
 omega
abbrev zui (l : List Int) (i : Nat) (j : Int) : List Int := l.take i ++ j :: l.drop i
theorem zle (hi : i ≤ l.length) : (zui l i j).length = l.length + 1 := by
 unfold zui
 rw [zzl, zz1, zzg, z1j]
 omega
theorem ins_run {L0 : Loc} {vb vc : Nat} {c0 : zac} {C : List zac} {h : zaf} {vps : List Value} (own : Own D iT 1 L0.a L0.c (l.map eI) c0) (S : St D (c0 :: [(vb, .cells (nV [j] ++ vps).toArray iT (0, 0))] :: C) h) (hi : i ≤ l.length) (hl : l.length ≤ 1000) (hvc : 1 ≤ vc) :
 Run Tryz.prog 343 [.slice L0.a l.length L0.c, .int .i64 (i : Nat), .slice (some ⟨vb, 0, none⟩) 1 vc] h fun v h' => ∃ a' c' ch', v = .slice a' (l.length + 1) c' ∧ Own D iT 1 a' c' ((zui l i j).map eI) ch' ∧ St D (ch' :: C) h' := by
 have hvb : h[vb]? = some (.cells (nV [j] ++ vps).toArray iT (0, 0)) := S.own (vb, _) (by simp)
 have SC : St D (c0 :: C) h := by
  have : St D ([(vb, .cells (nV [j] ++ vps).toArray iT (0, 0))] :: c0 :: C) h := S.perm (by simp only [zzd]; exact zz2 _ _ _)
  exact this.drop
 refine ⟨insCall, fun w hw => ?_⟩
 subst hw
 have hpl := zle (l := l) (i := i) (j := j) hi
 have hvs : ∀ k v, (nV [j])[k]? = some v → w.cell? ⟨vb, 0 + k, none⟩ = some v := fun k v hv => by
  show hcell w.heap _ = _
  rw [zaz hvb, zze]
  simp only [z0a]
  exact zai hv
 -- a new row
 have newR : ∀ {e : Ending} {w' : World} (c' : Nat) (cells : List Value), l.length + 1 ≤ c' → c' ≤ 9223372036854775807 → e = .returned (.slice (some ⟨w.heap.size, 0, none⟩) (l.length + 1) c') → w'.heap[w.heap.size]? = some (.cells (nV (zui l i j) ++ cells).toArray iT (0, 0)) → l.length + 1 + cells.length = c' →
  (∀ k, k ≠ w.heap.size → w'.heap[k]? = w.heap[k]?) → w'.heap.size = w.heap.size + 1 → Same w w' → ∃ v, e = .returned v ∧ (∃ a' c' ch', v = .slice a' (l.length + 1) c' ∧ Own D iT 1 a' c' ((zui l i j).map eI) ch' ∧ St D (ch' :: C) w'.heap) ∧ Same w w' := by
  rintro e w' c' cells h1 h2 rfl h3 h4 h5 h6 h7
  refine ⟨_, rfl, ⟨_, c', _, rfl, own_of (ps := cells) (b := w.heap.size) (by rw [hpl]; exact h4) h2, ?_⟩, h7⟩
  refine SC.upd ⟨by omega, fun k hk _ => h5 k (by omega)⟩ (by simpa using h3) (by simp) (fun p hp => .inr (by simp at hp; rw [hp]; exact zy9 _))
 rcases own_to own with ⟨rfl, hc0, rfl⟩ | ⟨b, ps, ha, rfl, hc, hM⟩
 · have hi0 : i = 0 := by simpa using hi
   subst hi0
   rw [hc0]
   refine (Any2.slices_Insert_int_end_grow Tryz.insL L0.a 0 0 vb 0 1 vc [] (nV [j]) w (by decide) (zy9 _) (by decide) (by decide) rfl rfl (fun _ => rfl) (fun _ _ k v hv => by simp at hv) hvs (ziq _)).mono ?_
   rintro e w' ⟨he, rfl⟩
   have hg1 : 0 + 1 ≤ grownCap w (0 + 1) 0 iT := by simp [grownCap, Question.cut]
   have hg2 : grownCap w (0 + 1) 0 iT ≤ 9223372036854775807 := by
    have := Nat.mod_lt (w.tape w.drawn (.appendCap (0 + 1) 0 iT)) (show 2 ^ 63 - (0 + 1) > 0 by omega)
    simp only [grownCap, Question.cut]; omega
   refine newR _ (Builtin.zeroCells (Value.int .i64 0).cells (grownCap w (0 + 1) 0 iT - (0 + 1))).toList hg1 hg2 he ?_ ?_ (fun k hk => ?_) (by show (w.heap.push _).size = _; rw [z27]) ⟨rfl, rfl, rfl, z0i _⟩
   · show (w.heap.push _)[w.heap.size]? = _
     rw [z28]
     congr 2
     rw [← z0n (xs := _ ++ _)]
     congr 1
     rw [z3l]
     rfl
   · rw [z1z]; exact zq4 hg1
   · show (w.heap.push _)[k]? = _
     rw [z2p, if_neg hk]
 · rw [ha]
   have hb : w.heap[b]? = some (.cells (nV l ++ ps).toArray iT (0, 0)) := SC.own (b, _) (by simp)
   have hnl : (nV l).length = l.length := zy2 _
   have hcl : (nV l ++ ps).length = L0.c := by rw [zzl, hnl]; exact hc
   have hcs : ∀ k v, (nV l)[k]? = some v → w.cell? ⟨b, 0 + k, none⟩ = some v := fun k v hv => by
    show hcell w.heap _ = _
    rw [zaz hb, zze]
    simp only [z0a]
    exact zai hv
   have hsp : ∀ k, k < L0.c → (w.cell? ⟨b, 0 + k, none⟩).isSome = true := fun k hk => by
    have : w.cell? ⟨b, 0 + k, none⟩ = hcell w.heap ⟨b, 0 + k, none⟩ := rfl
    rw [this, zaz hb, zze]
    simp only [z0a]
    rw [zy0 (by omega)]
    rfl
   have hfz : ∀ k, w.frozen? ⟨b, k, none⟩ = false := fun k => by
    show zi3 w.heap _ = false
    unfold zi3
    rw [hb]
    simp
   -- in place
   have oldR : ∀ {e : Ending} {w' : World} (cells : List Value), l.length + 1 ≤ L0.c → e = .returned (.slice (some ⟨b, 0, none⟩) (l.length + 1) L0.c) → w'.heap[b]? = some (.cells (nV (zui l i j) ++ cells).toArray iT (0, 0)) → l.length + 1 + cells.length = L0.c →
    (∀ k, k ≠ b → w'.heap[k]? = w.heap[k]?) → w'.heap.size = w.heap.size → Same w w' → ∃ v, e = .returned v ∧ (∃ a' c' ch', v = .slice a' (l.length + 1) c' ∧ Own D iT 1 a' c' ((zui l i j).map eI) ch' ∧ St D (ch' :: C) w'.heap) ∧ Same w w' := by
    rintro e w' cells h1 rfl h3 h4 h5 h6 h7
    refine ⟨_, rfl, ⟨_, _, _, rfl, own_of (ps := cells) (b := b) (by rw [hpl]; exact h4) hM, ?_⟩, h7⟩
    refine SC.upd ⟨by omega, fun k hk hk2 => h5 k (by simpa using hk2)⟩ (by simpa using h3) (by simp) (fun p hp => .inl (by simp at hp; rw [hp]; simp))
   by_cases hin : i = l.length
   · subst hin
     by_cases hroom : l.length + 1 ≤ L0.c
     · refine (Any2.slices_Insert_int_end_room Tryz.insL b 0 l.length L0.c vb 0 1 vc (nV [j]) w (by decide) hroom hM rfl (fun k hk => ?_) (fun k hk => hfz _) hvs (ziq _)).mono ?_
       · have := hsp (l.length + k) (by omega)
         rwa [← z0t] at this
       · rintro e w' ⟨he, rfl⟩
         obtain ⟨g1, g2, g3, g4⟩ := zbd b (nV [j]) (0 + l.length) w _ hb (by rw [hcl]; show 0 + l.length + 1 ≤ _; omega)
         refine oldR (ps.drop 1) hroom he (g1.trans ?_) (by rw [z1j]; omega) g2 g3 g4
         congr 3
         rw [zze]
         unfold zui nV
         simp only [z0r, List.drop_length, zzr, zzj, z1n, zzg, z0z]
         rw [List.take_left' (by simp), z2g, z0u (by simp), zy2, show l.length + (0 + 1) - l.length = 1 by omega, zz7]
     · have hg1 : l.length + 1 ≤ grownCap w (l.length + 1) L0.c iT := by simp [grownCap, Question.cut]
       have hg2 : grownCap w (l.length + 1) L0.c iT ≤ 9223372036854775807 := by
        have := Nat.mod_lt (w.tape w.drawn (.appendCap (l.length + 1) L0.c iT)) (show 2 ^ 63 - (l.length + 1) > 0 by omega)
        simp only [grownCap, Question.cut]; omega
       refine (Any2.slices_Insert_int_end_grow Tryz.insL (some ⟨b, 0, none⟩) l.length L0.c vb 0 1 vc (nV l) (nV [j]) w (by decide) (by omega) (by omega) (by omega) hnl rfl (fun h => by cases h) (fun a ha k v hv => by cases ha; rw [Addr.add_lit]; exact hcs k v hv) hvs (ziq _)).mono ?_
       rintro e w' ⟨he, rfl⟩
       refine newR _ (Builtin.zeroCells (Value.int .i64 0).cells (grownCap w (l.length + 1) L0.c iT - (l.length + 1))).toList hg1 hg2 he ?_ ?_ (fun k hk => ?_) (by show (w.heap.push _).size = _; rw [z27]) ⟨rfl, rfl, rfl, z0i _⟩
       · show (w.heap.push _)[w.heap.size]? = _
         rw [z28]
         congr 2
         rw [← z0n (xs := _ ++ _)]
         congr 1
         rw [z3l]
         unfold zui nV
         simp
         rfl
       · rw [z1z]; exact zq4 hg1
       · show (w.heap.push _)[k]? = _
         rw [z2p, if_neg hk]
   · have hlt : i < l.length := by omega
     have hdl : ((nV l).drop i).length = l.length - i := by rw [z1j, hnl]
     by_cases hroom : l.length + 1 ≤ L0.c
     · have hne : vb ≠ b := by
        have := S.nd
        simp [ids] at this
        exact fun e => this.1.1 e.symm
       refine (Any2.slices_Insert_int_shift Tryz.insL b 0 l.length L0.c i vb 0 1 vc (nV l) (nV [j]) w hlt (by decide) hroom hM hne hnl rfl hcs (fun k hk => hsp k (by omega)) (fun k hk => hfz _) hvs (ziq _) (ziq _) iT iT (nV [j] ++ vps).toArray.size (nV l ++ ps).toArray.size
        (by show zoe w.heap vb = _; unfold zoe; rw [hvb]) (by show zoe w.heap b = _; unfold zoe; rw [hb]) (by rw [z00, hcl]; omega) (by show zi3 w.heap _ = false; unfold zi3; rw [hvb]; simp) (by show zi3 w.heap _ = false; unfold zi3; rw [hvb]; simp)).mono ?_
       rintro e w' ⟨he, rfl⟩
       obtain ⟨g1, g2, g3, g4⟩ := zbd b ((nV l).drop i) (0 + (i + 1)) w.drew _ hb (by rw [hcl, hdl]; omega)
       obtain ⟨f1, f2, f3, f4⟩ := zbd b (nV [j]) (0 + i) (w.drew.setCells b (0 + (i + 1)) ((nV l).drop i)) _ g1 (by simp [hdl, hcl]; omega)
       refine oldR (ps.drop 1) hroom he (f1.trans ?_) (by rw [z1j]; omega) (fun k hk => (f2 k hk).trans (g2 k hk)) (f3.trans g3) (Same.trans (b := w.drew) ⟨rfl, rfl, rfl, z0i _⟩ (g4.trans f4))
       congr 3
       rw [zze, zze, hdl]
       have t1 : (List.take (i + 1) (nV l ++ ps) ++ (nV l).drop i ++ List.drop (i + 1 + (l.length - i)) (nV l ++ ps)).take i = (nV l).take i := by
        rw [zy8, z2j (by simp; omega), List.take_take, Nat.min_eq_left (by omega), z2j (by omega)]
       have t2 : (List.take (i + 1) (nV l ++ ps) ++ (nV l).drop i ++ List.drop (i + 1 + (l.length - i)) (nV l ++ ps)).drop (i + 1) = (nV l).drop i ++ ps.drop 1 := by
        have hA : (List.take (i + 1) (nV l ++ ps)).length = i + 1 := by rw [zz1, hcl]; omega
        rw [zy8, List.drop_left' hA, show i + 1 + (l.length - i) = (nV l).length + 1 by omega]
        congr 1
        rw [z2g, z0u (z0i _), zz7, Nat.add_sub_cancel_left]
       rw [t1, show i + (nV [j]).length = i + 1 from rfl, t2]
       unfold zui nV
       simp [z03, z1f]
     · have hg1 : l.length + 1 ≤ grownCap w (l.length + 1) L0.c iT := by simp [grownCap, Question.cut]
       have hg2 : grownCap w (l.length + 1) L0.c iT ≤ 9223372036854775807 := by
        have := Nat.mod_lt (w.tape w.drawn (.appendCap (l.length + 1) L0.c iT)) (show 2 ^ 63 - (l.length + 1) > 0 by omega)
        simp only [grownCap, Question.cut]; omega
       refine (Any2.slices_Insert_int_grow Tryz.insL b 0 l.length L0.c i vb 0 1 vc (nV l) (nV [j]) w hlt (by decide) (by omega) (by omega) (by omega) hnl rfl hcs hvs (ziq _) (ziq _)).mono ?_
       rintro e w' ⟨he, rfl⟩
       generalize hZ1 : Builtin.zeroCells (Value.int .i64 0).cells (l.length + 1 - i) = Z1
       generalize hZ2 : Builtin.zeroCells (Value.int .i64 0).cells (grownCap w (l.length + 1) L0.c (Go.Shelf.Ren.t Tryz.insL_ren 3) - (l.length + 1)) = Z2
       have z1 : Z1.size = l.length + 1 - i := by
        have := zq4 (n := 0) (c := l.length + 1 - i) (zzv _)
        rw [Nat.sub_zero, hZ1] at this; omega
       have z2 : l.length + 1 + Z2.size = grownCap w (l.length + 1) L0.c iT := by rw [← hZ2]; exact zq4 hg1
       have ea : ((nV l).take i).toArray ++ Z1 ++ Z2 = ((nV l).take i ++ Z1.toList ++ Z2.toList).toArray := by
        rw [← z0n (xs := _ ++ Z2)]
        simp
       rw [ea]
       have hw0 : (w.alloc (.cells ((nV l).take i ++ Z1.toList ++ Z2.toList).toArray iT (0, 0))).drew.heap[w.heap.size]? = some (.cells ((nV l).take i ++ Z1.toList ++ Z2.toList).toArray iT (0, 0)) := by
        show (w.heap.push _)[w.heap.size]? = _
        rw [z28]
       have htl : ((nV l).take i).length = i := by rw [zz1, hnl]; omega
       obtain ⟨g1, g2, g3, g4⟩ := zbd w.heap.size (nV [j]) i _ _ hw0 (by simp [z1]; omega)
       obtain ⟨f1, f2, f3, f4⟩ := zbd w.heap.size ((nV l).drop i) (i + 1) (((w.alloc (.cells ((nV l).take i ++ Z1.toList ++ Z2.toList).toArray iT (0, 0))).drew.setCells w.heap.size i (nV [j])).drew) _ g1 (by simp [z1]; omega)
       refine newR _ Z2.toList hg1 hg2 he (f1.trans ?_) (by rw [z1z]; exact z2) (fun k hk => (f2 k hk).trans ((g2 k hk).trans ?_)) (f3.trans (g3.trans ?_)) ?_
       · congr 3
         have t1 : ((nV l).take i ++ Z1.toList ++ Z2.toList).take i = (nV l).take i := by
          rw [zy8, z2j (by omega), z0v (by omega)]
         rw [t1, show i + (nV [j]).length = i + 1 from rfl]
         have t2 : ((nV l).take i ++ nV [j] ++ List.drop (i + 1) ((nV l).take i ++ Z1.toList ++ Z2.toList)).take (i + 1) = (nV l).take i ++ nV [j] := by
          rw [z2j (by simp; omega), z0v (by simp; omega)]
         have t3 : ((nV l).take i ++ nV [j] ++ List.drop (i + 1) ((nV l).take i ++ Z1.toList ++ Z2.toList)).drop (i + 1 + ((nV l).drop i).length) = Z2.toList := by
          rw [z2g, z0u (by simp; omega), zz7, z08, hdl]
          have e1 : ((nV l).take i ++ nV [j]).length = i + 1 := by simp; omega
          rw [e1, show i + 1 + (i + 1 + (l.length - i) - (i + 1)) = l.length + 1 by omega, z2g, z0u (by simp [z1]; omega), zz7]
          have e2 : ((nV l).take i ++ Z1.toList).length = l.length + 1 := by simp [z1]; omega
          rw [e2, Nat.sub_self, z09]
         rw [t2, t3]
         unfold zui nV
         simp [z03, z1f]
       · show (w.heap.push _)[k]? = _
         rw [z2p, if_neg hk]
       · show (w.heap.push _).size = _
         rw [z27]
       · exact Same.trans (b := (w.alloc (.cells ((nV l).take i ++ Z1.toList ++ Z2.toList).toArray iT (0, 0))).drew) ⟨rfl, rfl, rfl, z0i _⟩ (g4.trans (Same.trans (b := ((w.alloc (.cells ((nV l).take i ++ Z1.toList ++ Z2.toList).toArray iT (0, 0))).drew.setCells w.heap.size i (nV [j])).drew) ⟨rfl, rfl, rfl, z0i _⟩ f4))
theorem zod (hi : i ≤ l.length) (hl : l.length ≤ 1000) (k : Q (.w 2) [.x, .x, .w iT 1 ((zui l i j).map eI)]) :
 PRun Tryz.prog 343 [.w iT 1 (l.map eI), .w iT 1 [[.n j]]] [.w 0, .i (i : Nat), .w 1] Q := by
 intro D ρ chs C h vs M F
 obtain ⟨L0, L1, rfl⟩ : ∃ L0 L1, ρ = [L0, L1] := by
  have := M.len
  match ρ, this with
  | [a, b], _ => exact ⟨a, b, rfl⟩
 obtain ⟨c0, c1, rfl⟩ : ∃ c0 c1, chs = [c0, c1] := by
  have := M.lch
  match chs, this with
  | [a, b], _ => exact ⟨a, b, rfl⟩
 have e0 := M.ent 0 L0 _ c0 rfl rfl rfl
 have e1 := M.ent 1 L1 _ c1 rfl rfl rfl
 have S : St D (c0 :: c1 :: C) h := M.st
 cases F with
 | cons a1 F =>
 cases F with
 | cons a2 F =>
 cases F with
 | cons a3 F =>
 cases F
 obtain ⟨L0', hL0, rfl⟩ := a1.w_inv
 have : L0' = L0 := by simpa using hL0.symm
 subst this
 obtain ⟨L1', hL1, rfl⟩ := a3.w_inv
 have : L1' = L1 := by simpa using hL1.symm
 subst this
 have := zha a2
 subst this
 cases e0 with
 | w own hn =>
 cases e1 with
 | w own1 hn1 =>
 rw [zy2] at hn
 have hn1 : L1'.n = 1 := hn1
 rcases own_to (l := [j]) own1 with ⟨h0, -⟩ | ⟨vb, vps, ha, rfl, hc, hM⟩
 · cases h0
 rw [hn, hn1, ha]
 refine (ins_run own S hi hl (by simp at hc; omega)).mono ?_
 rintro v h2 ⟨a', c', ch', rfl, own2, S2⟩
 refine ⟨D, [⟨0, a', l.length + 1, c', none⟩], [[], [], ch'], .w 2, _, .refl D, ⟨rfl, rfl, fun i L ab ch q1 q2 q3 => ?_, S2.perm (by simp only [zzd, zz6, zz7]; exact .refl _)⟩, .w (L := ⟨0, a', l.length + 1, c', none⟩) rfl, k⟩
 match i, q1, q2, q3 with
 | 0, q1, q2, q3 => cases q1; cases q2; cases q3; exact .x
 | 1, q1, q2, q3 => cases q1; cases q2; cases q3; exact .x
 | 2, q1, q2, q3 => cases q1; cases q2; cases q3; exact .w own2 (by rw [zy2, zle hi])
 | i + 3, q1, q2, q3 => simp at q2
end
section
set_option maxRecDepth 1000000
variable {Q : V → Mem → Prop}
structure Sd where
 n : Int
 run : List Int
 wait : List Int
section
variable {mp : List (MK × List U)} {a b c d : Sd}
abbrev MBy (mp : List (MK × List U)) (a b c d : Sd) : Mem := [.c [.w 1, .m 2], .cw 270 3 4 [.i a.n, .w 3, .w 4, .i b.n, .w 5, .w 6, .i c.n, .w 7, .w 8, .i d.n, .w 9, .w 10], .p .n 1 false mp, .w iT 1 (a.run.map eI), .w iT 1 (a.wait.map eI), .w iT 1 (b.run.map eI), .w iT 1 (b.wait.map eI), .w iT 1 (c.run.map eI), .w iT 1 (c.wait.map eI), .w iT 1 (d.run.map eI), .w iT 1 (d.wait.map eI)]
theorem zc4 {F : Int → Bool → List (List U) → Prop} : post [.I, .B] [.row iT 1] F (.t [.i n, .u (.b x)]) [.w iT 1 r] = F n x r := rfl
theorem zlm {F : Bool → List (List U) → Prop} : post [.B] [.row iT 1] F (.u (.b x)) [.w iT 1 r] = F x r := rfl
theorem zc2 {F : List (List U) → Prop} : post [.one (.ow iT 1)] [.X, .X] F (.w 2) [.x, .x, .w iT 1 r] = F r := rfl
theorem zc3 : post [.one (.ow iT 1)] [.X, .c [.i .i64]] F (.w 2) [.x, .c [.i j], .w iT 1 r] = F r j := rfl
theorem zlj {F : List (List U) → Prop} : post [.one (.ow iT 1)] [] F (.w 0) [.w iT 1 r] = F r := rfl
theorem zd8 {F : List (List U) → List (List U) → Prop} {s : List (List U)} : post [.L 1] [.row iT 1] F (.l 1 r) [.w iT 1 s] = F r s := rfl
theorem zc0 : zyu .i64 (Int.tdiv 4 2) = 2 := by decide
theorem znl {of : Int} (h1 : 1 ≤ bay ∧ bay ≤ 2) (h2 : 0 ≤ of ∧ of ≤ 1) : zyu .i64 (zyu .i64 (2 * zyu .i64 (bay - 1)) + of) = 2 * (bay - 1) + of := by
 rw [w64 (x := bay - 1) (by omega) (by omega), w64 (x := 2 * (bay - 1)) (by omega) (by omega), w64 (by omega) (by omega)]
theorem zgs (h : l.Pairwise (· < ·)) : (l.filter (· != j)).Pairwise (· < ·) := h.filter _
theorem ask0 {of : Int} (h1 : 1 ≤ bay ∧ bay ≤ 2) (h2 : 0 ≤ of ∧ of ≤ 1) (hk : 2 * (bay - 1) + of = 0) (hj : 1 ≤ j ∧ j ≤ 1099511627776) (hno : zbl mp (.n j) = none) (hs : a.run.Pairwise (· < ·)) (hl : a.run.length ≤ 8) (hw : a.wait.length ≤ 8)
 (hroom : (a.run.length : Int) < a.n ∨ (a.n ≠ 0 ∧ a.wait.length < 8))
 (k1 : (a.run.length : Int) < a.n → Q (.t [.u (.b true), .i 0]) [.c [.w 1, .m 2], .cw 270 3 4 [.i a.n, .w 11, .w 4, .i b.n, .w 5, .w 6, .i c.n, .w 7, .w 8, .i d.n, .w 9, .w 10], .p .n 1 false (za1 mp (.n j) [.n 0]), .x, .w iT 1 (a.wait.map eI), .w iT 1 (b.run.map eI), .w iT 1 (b.wait.map eI), .w iT 1 (c.run.map eI), .w iT 1 (c.wait.map eI), .w iT 1 (d.run.map eI), .w iT 1 (d.wait.map eI), .w iT 1 ((zi1 j a.run).map eI)])
 (k2 : ¬ (a.run.length : Int) < a.n → Q (.t [.u (.b false), .i 0]) [.c [.w 1, .m 2], .cw 270 3 4 [.i a.n, .w 3, .w 11, .i b.n, .w 5, .w 6, .i c.n, .w 7, .w 8, .i d.n, .w 9, .w 10], .p .n 1 false (za1 mp (.n j) [.n 0]), .w iT 1 (a.run.map eI), .x, .w iT 1 (b.run.map eI), .w iT 1 (b.wait.map eI), .w iT 1 (c.run.map eI), .w iT 1 (c.wait.map eI), .w iT 1 (d.run.map eI), .w iT 1 (d.wait.map eI), .w iT 1 (a.wait.map eI ++ [eI j])]) :
 PRun Tryz.prog 199 (MBy mp a b c d) [.r 0 0, .i bay, .i of, .i j] Q := by
 refine S199k0 (cIf (fun h => by omega) fun _ => ⟨by decide, ?_⟩)
 rw [zc0]
 refine cIf (fun h => by omega) fun _ => cIf (fun h => by omega) fun _ => cIf (fun h => by omega) fun _ => ⟨by rw [znl h1 h2]; exact hk, ?_⟩
 refine cIf (fun _ => ?_) fun h => by omega
 rw [decide_eq_true hj.2]
 simp only [z0c, cond_false]
 rw [hno]
 refine ⟨by decide, by decide, ?_⟩
 simp only [zy2]
 refine cIf (fun h => ?_) fun h => ?_
 · rw [decide_eq_true h]
   refine zei hs (by omega) fun q => ?_
   rw [zc4]
   refine zod (ze7 _ _) (by omega) ?_
   rw [zc2]
   exact k1 h
 · rw [decide_eq_false h]
   refine cEq (fun e => by omega) fun _ => cIf (fun e => by omega) fun _ => ⟨?_, ?_⟩
   · unfold zan; simp; omega
   · exact k2 h
theorem leave0 (hm : zbl mp (.n j) = some [.n 0]) (hs : a.run.Pairwise (· < ·)) (hl : a.run.length ≤ 8) (hw : a.wait.length ≤ 8)
 (k1 : a.run.contains j = false ∨ a.wait.filter (· != j) = [] → Q (.t [.i 0, .i 0]) [.c [.w 1, .m 2], .cw 270 3 4 [.i a.n, .w 11, .w 12, .i b.n, .w 5, .w 6, .i c.n, .w 7, .w 8, .i d.n, .w 9, .w 10], .p .n 1 false (zdj mp (.n j)), .x, .x, .w iT 1 (b.run.map eI), .w iT 1 (b.wait.map eI), .w iT 1 (c.run.map eI), .w iT 1 (c.wait.map eI), .w iT 1 (d.run.map eI), .w iT 1 (d.wait.map eI), .w iT 1 ((a.run.filter (· != j)).map eI), .w iT 1 ((a.wait.filter (· != j)).map eI)])
 (k2 : ∀ w ws, a.run.contains j = true → a.wait.filter (· != j) = w :: ws → Q (.t [.i w, .i 0]) [.c [.w 1, .m 2], .cw 270 3 4 [.i a.n, .w 11, .w 12, .i b.n, .w 5, .w 6, .i c.n, .w 7, .w 8, .i d.n, .w 9, .w 10], .p .n 1 false (zdj mp (.n j)), .x, .x, .w iT 1 (b.run.map eI), .w iT 1 (b.wait.map eI), .w iT 1 (c.run.map eI), .w iT 1 (c.wait.map eI), .w iT 1 (d.run.map eI), .w iT 1 (d.wait.map eI), .w iT 1 ((zi1 w (a.run.filter (· != j))).map eI), .w iT 1 (ws.map eI)]) :
 PRun Tryz.prog 211 (MBy mp a b c d) [.r 0 0, .i j] Q := by
 refine S211k0 ?_
 rw [hm]
 simp only [mO, ug0, zbs]
 refine ⟨by first | trivial | rfl, by decide, by decide, zme (by omega) ?_⟩
 rw [zlm]
 refine zor (by omega) ?_
 rw [zc3]
 refine zor (by omega) ?_
 rw [zc3]
 have hf1 : (a.run.filter (· != j)).length ≤ a.run.length := z0b _ _
 have hf2 : (a.wait.filter (· != j)).length ≤ a.wait.length := z0b _ _
 cases hc : a.run.contains j with
 | false => exact k1 (.inl hc)
 | true =>
   rw [z0c, cond_false]
   cases hx : a.wait.filter (· != j) with
   | nil =>
     have := k1 (.inr hx)
     rw [hx] at this
     exact this
   | cons w ws =>
     rw [hx] at hf2
     simp only [zzg] at hf2
     simp only [zy2, zzg]
     refine cEq (fun e => by omega) fun _ => ⟨by decide, by omega, ?_⟩
     rw [zah (r := eI w) (by decide) rfl]
     simp only [eI, ug0, zbs]
     refine ⟨by decide, by omega, zzk _, ?_⟩
     have e : List.drop 1 (List.take (ws.length + 1) (zzf eI (w :: ws))) = ws.map eI := by
      rw [z0v (by simp)]; rfl
     rw [e]
     refine zey (by omega) ?_
     rw [zlj]
     refine zei (zgs hs) (by omega) fun q => ?_
     rw [zc4]
     refine zod (ze7 _ _) (by omega) ?_
     rw [zc2]
     exact k2 w ws hc hx
theorem free0 {of : Int} (h1 : 1 ≤ bay ∧ bay ≤ 2) (h2 : 0 ≤ of ∧ of ≤ 1) (hk : 2 * (bay - 1) + of = 0) (hl : a.run.length ≤ 8) (hn : 0 ≤ a.n ∧ a.n ≤ 8)
 (k1 : Q (.t [.i (a.n - (a.run.length : Int)), .i 0]) (MBy mp a b c d)) : PRun Tryz.prog 213 (MBy mp a b c d) [.r 0 0, .i bay, .i of] Q := by
 refine S213k0 (cIf (fun h => by omega) fun _ => ⟨by decide, ?_⟩)
 rw [zc0]
 refine cIf (fun h => by omega) fun _ => cIf (fun h => by omega) fun _ => cIf (fun h => by omega) fun _ => ⟨by rw [znl h1 h2]; exact hk, ?_⟩
 refine ⟨by decide, by decide, by decide, by decide, ?_⟩
 rw [zy2, w64 (by omega) (by omega)]
 exact k1
theorem ask1 {of : Int} (h1 : 1 ≤ bay ∧ bay ≤ 2) (h2 : 0 ≤ of ∧ of ≤ 1) (hk : 2 * (bay - 1) + of = 1) (hj : 1 ≤ j ∧ j ≤ 1099511627776) (hno : zbl mp (.n j) = none) (hs : b.run.Pairwise (· < ·)) (hl : b.run.length ≤ 8) (hw : b.wait.length ≤ 8)
 (hroom : (b.run.length : Int) < b.n ∨ (b.n ≠ 0 ∧ b.wait.length < 8))
 (k1 : (b.run.length : Int) < b.n → Q (.t [.u (.b true), .i 0]) [.c [.w 1, .m 2], .cw 270 3 4 [.i a.n, .w 3, .w 4, .i b.n, .w 11, .w 6, .i c.n, .w 7, .w 8, .i d.n, .w 9, .w 10], .p .n 1 false (za1 mp (.n j) [.n 1]), .w iT 1 (a.run.map eI), .w iT 1 (a.wait.map eI), .x, .w iT 1 (b.wait.map eI), .w iT 1 (c.run.map eI), .w iT 1 (c.wait.map eI), .w iT 1 (d.run.map eI), .w iT 1 (d.wait.map eI), .w iT 1 ((zi1 j b.run).map eI)])
 (k2 : ¬ (b.run.length : Int) < b.n → Q (.t [.u (.b false), .i 0]) [.c [.w 1, .m 2], .cw 270 3 4 [.i a.n, .w 3, .w 4, .i b.n, .w 5, .w 11, .i c.n, .w 7, .w 8, .i d.n, .w 9, .w 10], .p .n 1 false (za1 mp (.n j) [.n 1]), .w iT 1 (a.run.map eI), .w iT 1 (a.wait.map eI), .w iT 1 (b.run.map eI), .x, .w iT 1 (c.run.map eI), .w iT 1 (c.wait.map eI), .w iT 1 (d.run.map eI), .w iT 1 (d.wait.map eI), .w iT 1 (b.wait.map eI ++ [eI j])]) :
 PRun Tryz.prog 199 (MBy mp a b c d) [.r 0 0, .i bay, .i of, .i j] Q := by
 refine S199k1 (cIf (fun h => by omega) fun _ => ⟨by decide, ?_⟩)
 rw [zc0]
 refine cIf (fun h => by omega) fun _ => cIf (fun h => by omega) fun _ => cIf (fun h => by omega) fun _ => ⟨by rw [znl h1 h2]; exact hk, ?_⟩
 refine cIf (fun _ => ?_) fun h => by omega
 rw [decide_eq_true hj.2]
 simp only [z0c, cond_false]
 rw [hno]
 refine ⟨by decide, by decide, ?_⟩
 simp only [zy2]
 refine cIf (fun h => ?_) fun h => ?_
 · rw [decide_eq_true h]
   refine zei hs (by omega) fun q => ?_
   rw [zc4]
   refine zod (ze7 _ _) (by omega) ?_
   rw [zc2]
   exact k1 h
 · rw [decide_eq_false h]
   refine cEq (fun e => by omega) fun _ => cIf (fun e => by omega) fun _ => ⟨?_, ?_⟩
   · unfold zan; simp; omega
   · exact k2 h
theorem leave1 (hm : zbl mp (.n j) = some [.n 1]) (hs : b.run.Pairwise (· < ·)) (hl : b.run.length ≤ 8) (hw : b.wait.length ≤ 8)
 (k1 : b.run.contains j = false ∨ b.wait.filter (· != j) = [] → Q (.t [.i 0, .i 0]) [.c [.w 1, .m 2], .cw 270 3 4 [.i a.n, .w 3, .w 4, .i b.n, .w 11, .w 12, .i c.n, .w 7, .w 8, .i d.n, .w 9, .w 10], .p .n 1 false (zdj mp (.n j)), .w iT 1 (a.run.map eI), .w iT 1 (a.wait.map eI), .x, .x, .w iT 1 (c.run.map eI), .w iT 1 (c.wait.map eI), .w iT 1 (d.run.map eI), .w iT 1 (d.wait.map eI), .w iT 1 ((b.run.filter (· != j)).map eI), .w iT 1 ((b.wait.filter (· != j)).map eI)])
 (k2 : ∀ w ws, b.run.contains j = true → b.wait.filter (· != j) = w :: ws → Q (.t [.i w, .i 0]) [.c [.w 1, .m 2], .cw 270 3 4 [.i a.n, .w 3, .w 4, .i b.n, .w 11, .w 12, .i c.n, .w 7, .w 8, .i d.n, .w 9, .w 10], .p .n 1 false (zdj mp (.n j)), .w iT 1 (a.run.map eI), .w iT 1 (a.wait.map eI), .x, .x, .w iT 1 (c.run.map eI), .w iT 1 (c.wait.map eI), .w iT 1 (d.run.map eI), .w iT 1 (d.wait.map eI), .w iT 1 ((zi1 w (b.run.filter (· != j))).map eI), .w iT 1 (ws.map eI)]) :
 PRun Tryz.prog 211 (MBy mp a b c d) [.r 0 0, .i j] Q := by
 refine S211k1 ?_
 rw [hm]
 simp only [mO, ug0, zbs]
 refine ⟨by first | trivial | rfl, by decide, by decide, zme (by omega) ?_⟩
 rw [zlm]
 refine zor (by omega) ?_
 rw [zc3]
 refine zor (by omega) ?_
 rw [zc3]
 have hf1 : (b.run.filter (· != j)).length ≤ b.run.length := z0b _ _
 have hf2 : (b.wait.filter (· != j)).length ≤ b.wait.length := z0b _ _
 cases hc : b.run.contains j with
 | false => exact k1 (.inl hc)
 | true =>
   rw [z0c, cond_false]
   cases hx : b.wait.filter (· != j) with
   | nil =>
     have := k1 (.inr hx)
     rw [hx] at this
     exact this
   | cons w ws =>
     rw [hx] at hf2
     simp only [zzg] at hf2
     simp only [zy2, zzg]
     refine cEq (fun e => by omega) fun _ => ⟨by decide, by omega, ?_⟩
     rw [zah (r := eI w) (by decide) rfl]
     simp only [eI, ug0, zbs]
     refine ⟨by decide, by omega, zzk _, ?_⟩
     have e : List.drop 1 (List.take (ws.length + 1) (zzf eI (w :: ws))) = ws.map eI := by
      rw [z0v (by simp)]; rfl
     rw [e]
     refine zey (by omega) ?_
     rw [zlj]
     refine zei (zgs hs) (by omega) fun q => ?_
     rw [zc4]
     refine zod (ze7 _ _) (by omega) ?_
     rw [zc2]
     exact k2 w ws hc hx
theorem free1 {of : Int} (h1 : 1 ≤ bay ∧ bay ≤ 2) (h2 : 0 ≤ of ∧ of ≤ 1) (hk : 2 * (bay - 1) + of = 1) (hl : b.run.length ≤ 8) (hn : 0 ≤ b.n ∧ b.n ≤ 8)
 (k1 : Q (.t [.i (b.n - (b.run.length : Int)), .i 0]) (MBy mp a b c d)) : PRun Tryz.prog 213 (MBy mp a b c d) [.r 0 0, .i bay, .i of] Q := by
 refine S213k1 (cIf (fun h => by omega) fun _ => ⟨by decide, ?_⟩)
 rw [zc0]
 refine cIf (fun h => by omega) fun _ => cIf (fun h => by omega) fun _ => cIf (fun h => by omega) fun _ => ⟨by rw [znl h1 h2]; exact hk, ?_⟩
 refine ⟨by decide, by decide, by decide, by decide, ?_⟩
 rw [zy2, w64 (by omega) (by omega)]
 exact k1
theorem ask2 {of : Int} (h1 : 1 ≤ bay ∧ bay ≤ 2) (h2 : 0 ≤ of ∧ of ≤ 1) (hk : 2 * (bay - 1) + of = 2) (hj : 1 ≤ j ∧ j ≤ 1099511627776) (hno : zbl mp (.n j) = none) (hs : c.run.Pairwise (· < ·)) (hl : c.run.length ≤ 8) (hw : c.wait.length ≤ 8)
 (hroom : (c.run.length : Int) < c.n ∨ (c.n ≠ 0 ∧ c.wait.length < 8))
 (k1 : (c.run.length : Int) < c.n → Q (.t [.u (.b true), .i 0]) [.c [.w 1, .m 2], .cw 270 3 4 [.i a.n, .w 3, .w 4, .i b.n, .w 5, .w 6, .i c.n, .w 11, .w 8, .i d.n, .w 9, .w 10], .p .n 1 false (za1 mp (.n j) [.n 2]), .w iT 1 (a.run.map eI), .w iT 1 (a.wait.map eI), .w iT 1 (b.run.map eI), .w iT 1 (b.wait.map eI), .x, .w iT 1 (c.wait.map eI), .w iT 1 (d.run.map eI), .w iT 1 (d.wait.map eI), .w iT 1 ((zi1 j c.run).map eI)])
 (k2 : ¬ (c.run.length : Int) < c.n → Q (.t [.u (.b false), .i 0]) [.c [.w 1, .m 2], .cw 270 3 4 [.i a.n, .w 3, .w 4, .i b.n, .w 5, .w 6, .i c.n, .w 7, .w 11, .i d.n, .w 9, .w 10], .p .n 1 false (za1 mp (.n j) [.n 2]), .w iT 1 (a.run.map eI), .w iT 1 (a.wait.map eI), .w iT 1 (b.run.map eI), .w iT 1 (b.wait.map eI), .w iT 1 (c.run.map eI), .x, .w iT 1 (d.run.map eI), .w iT 1 (d.wait.map eI), .w iT 1 (c.wait.map eI ++ [eI j])]) :
 PRun Tryz.prog 199 (MBy mp a b c d) [.r 0 0, .i bay, .i of, .i j] Q := by
 refine S199k2 (cIf (fun h => by omega) fun _ => ⟨by decide, ?_⟩)
 rw [zc0]
 refine cIf (fun h => by omega) fun _ => cIf (fun h => by omega) fun _ => cIf (fun h => by omega) fun _ => ⟨by rw [znl h1 h2]; exact hk, ?_⟩
 refine cIf (fun _ => ?_) fun h => by omega
 rw [decide_eq_true hj.2]
 simp only [z0c, cond_false]
 rw [hno]
 refine ⟨by decide, by decide, ?_⟩
 simp only [zy2]
 refine cIf (fun h => ?_) fun h => ?_
 · rw [decide_eq_true h]
   refine zei hs (by omega) fun q => ?_
   rw [zc4]
   refine zod (ze7 _ _) (by omega) ?_
   rw [zc2]
   exact k1 h
 · rw [decide_eq_false h]
   refine cEq (fun e => by omega) fun _ => cIf (fun e => by omega) fun _ => ⟨?_, ?_⟩
   · unfold zan; simp; omega
   · exact k2 h
theorem leave2 (hm : zbl mp (.n j) = some [.n 2]) (hs : c.run.Pairwise (· < ·)) (hl : c.run.length ≤ 8) (hw : c.wait.length ≤ 8)
 (k1 : c.run.contains j = false ∨ c.wait.filter (· != j) = [] → Q (.t [.i 0, .i 0]) [.c [.w 1, .m 2], .cw 270 3 4 [.i a.n, .w 3, .w 4, .i b.n, .w 5, .w 6, .i c.n, .w 11, .w 12, .i d.n, .w 9, .w 10], .p .n 1 false (zdj mp (.n j)), .w iT 1 (a.run.map eI), .w iT 1 (a.wait.map eI), .w iT 1 (b.run.map eI), .w iT 1 (b.wait.map eI), .x, .x, .w iT 1 (d.run.map eI), .w iT 1 (d.wait.map eI), .w iT 1 ((c.run.filter (· != j)).map eI), .w iT 1 ((c.wait.filter (· != j)).map eI)])
 (k2 : ∀ w ws, c.run.contains j = true → c.wait.filter (· != j) = w :: ws → Q (.t [.i w, .i 0]) [.c [.w 1, .m 2], .cw 270 3 4 [.i a.n, .w 3, .w 4, .i b.n, .w 5, .w 6, .i c.n, .w 11, .w 12, .i d.n, .w 9, .w 10], .p .n 1 false (zdj mp (.n j)), .w iT 1 (a.run.map eI), .w iT 1 (a.wait.map eI), .w iT 1 (b.run.map eI), .w iT 1 (b.wait.map eI), .x, .x, .w iT 1 (d.run.map eI), .w iT 1 (d.wait.map eI), .w iT 1 ((zi1 w (c.run.filter (· != j))).map eI), .w iT 1 (ws.map eI)]) :
 PRun Tryz.prog 211 (MBy mp a b c d) [.r 0 0, .i j] Q := by
 refine S211k2 ?_
 rw [hm]
 simp only [mO, ug0, zbs]
 refine ⟨by first | trivial | rfl, by decide, by decide, zme (by omega) ?_⟩
 rw [zlm]
 refine zor (by omega) ?_
 rw [zc3]
 refine zor (by omega) ?_
 rw [zc3]
 have hf1 : (c.run.filter (· != j)).length ≤ c.run.length := z0b _ _
 have hf2 : (c.wait.filter (· != j)).length ≤ c.wait.length := z0b _ _
 cases hc : c.run.contains j with
 | false => exact k1 (.inl hc)
 | true =>
   rw [z0c, cond_false]
   cases hx : c.wait.filter (· != j) with
   | nil =>
     have := k1 (.inr hx)
     rw [hx] at this
     exact this
   | cons w ws =>
     rw [hx] at hf2
     simp only [zzg] at hf2
     simp only [zy2, zzg]
     refine cEq (fun e => by omega) fun _ => ⟨by decide, by omega, ?_⟩
     rw [zah (r := eI w) (by decide) rfl]
     simp only [eI, ug0, zbs]
     refine ⟨by decide, by omega, zzk _, ?_⟩
     have e : List.drop 1 (List.take (ws.length + 1) (zzf eI (w :: ws))) = ws.map eI := by
      rw [z0v (by simp)]; rfl
     rw [e]
     refine zey (by omega) ?_
     rw [zlj]
     refine zei (zgs hs) (by omega) fun q => ?_
     rw [zc4]
     refine zod (ze7 _ _) (by omega) ?_
     rw [zc2]
     exact k2 w ws hc hx
theorem free2 {of : Int} (h1 : 1 ≤ bay ∧ bay ≤ 2) (h2 : 0 ≤ of ∧ of ≤ 1) (hk : 2 * (bay - 1) + of = 2) (hl : c.run.length ≤ 8) (hn : 0 ≤ c.n ∧ c.n ≤ 8)
 (k1 : Q (.t [.i (c.n - (c.run.length : Int)), .i 0]) (MBy mp a b c d)) : PRun Tryz.prog 213 (MBy mp a b c d) [.r 0 0, .i bay, .i of] Q := by
 refine S213k2 (cIf (fun h => by omega) fun _ => ⟨by decide, ?_⟩)
 rw [zc0]
 refine cIf (fun h => by omega) fun _ => cIf (fun h => by omega) fun _ => cIf (fun h => by omega) fun _ => ⟨by rw [znl h1 h2]; exact hk, ?_⟩
 refine ⟨by decide, by decide, by decide, by decide, ?_⟩
 rw [zy2, w64 (by omega) (by omega)]
 exact k1
theorem ask3 {of : Int} (h1 : 1 ≤ bay ∧ bay ≤ 2) (h2 : 0 ≤ of ∧ of ≤ 1) (hk : 2 * (bay - 1) + of = 3) (hj : 1 ≤ j ∧ j ≤ 1099511627776) (hno : zbl mp (.n j) = none) (hs : d.run.Pairwise (· < ·)) (hl : d.run.length ≤ 8) (hw : d.wait.length ≤ 8)
 (hroom : (d.run.length : Int) < d.n ∨ (d.n ≠ 0 ∧ d.wait.length < 8))
 (k1 : (d.run.length : Int) < d.n → Q (.t [.u (.b true), .i 0]) [.c [.w 1, .m 2], .cw 270 3 4 [.i a.n, .w 3, .w 4, .i b.n, .w 5, .w 6, .i c.n, .w 7, .w 8, .i d.n, .w 11, .w 10], .p .n 1 false (za1 mp (.n j) [.n 3]), .w iT 1 (a.run.map eI), .w iT 1 (a.wait.map eI), .w iT 1 (b.run.map eI), .w iT 1 (b.wait.map eI), .w iT 1 (c.run.map eI), .w iT 1 (c.wait.map eI), .x, .w iT 1 (d.wait.map eI), .w iT 1 ((zi1 j d.run).map eI)])
 (k2 : ¬ (d.run.length : Int) < d.n → Q (.t [.u (.b false), .i 0]) [.c [.w 1, .m 2], .cw 270 3 4 [.i a.n, .w 3, .w 4, .i b.n, .w 5, .w 6, .i c.n, .w 7, .w 8, .i d.n, .w 9, .w 11], .p .n 1 false (za1 mp (.n j) [.n 3]), .w iT 1 (a.run.map eI), .w iT 1 (a.wait.map eI), .w iT 1 (b.run.map eI), .w iT 1 (b.wait.map eI), .w iT 1 (c.run.map eI), .w iT 1 (c.wait.map eI), .w iT 1 (d.run.map eI), .x, .w iT 1 (d.wait.map eI ++ [eI j])]) :
 PRun Tryz.prog 199 (MBy mp a b c d) [.r 0 0, .i bay, .i of, .i j] Q := by
 refine S199k3 (cIf (fun h => by omega) fun _ => ⟨by decide, ?_⟩)
 rw [zc0]
 refine cIf (fun h => by omega) fun _ => cIf (fun h => by omega) fun _ => cIf (fun h => by omega) fun _ => ⟨by rw [znl h1 h2]; exact hk, ?_⟩
 refine cIf (fun _ => ?_) fun h => by omega
 rw [decide_eq_true hj.2]
 simp only [z0c, cond_false]
 rw [hno]
 refine ⟨by decide, by decide, ?_⟩
 simp only [zy2]
 refine cIf (fun h => ?_) fun h => ?_
 · rw [decide_eq_true h]
   refine zei hs (by omega) fun q => ?_
   rw [zc4]
   refine zod (ze7 _ _) (by omega) ?_
   rw [zc2]
   exact k1 h
 · rw [decide_eq_false h]
   refine cEq (fun e => by omega) fun _ => cIf (fun e => by omega) fun _ => ⟨?_, ?_⟩
   · unfold zan; simp; omega
   · exact k2 h
theorem leave3 (hm : zbl mp (.n j) = some [.n 3]) (hs : d.run.Pairwise (· < ·)) (hl : d.run.length ≤ 8) (hw : d.wait.length ≤ 8)
 (k1 : d.run.contains j = false ∨ d.wait.filter (· != j) = [] → Q (.t [.i 0, .i 0]) [.c [.w 1, .m 2], .cw 270 3 4 [.i a.n, .w 3, .w 4, .i b.n, .w 5, .w 6, .i c.n, .w 7, .w 8, .i d.n, .w 11, .w 12], .p .n 1 false (zdj mp (.n j)), .w iT 1 (a.run.map eI), .w iT 1 (a.wait.map eI), .w iT 1 (b.run.map eI), .w iT 1 (b.wait.map eI), .w iT 1 (c.run.map eI), .w iT 1 (c.wait.map eI), .x, .x, .w iT 1 ((d.run.filter (· != j)).map eI), .w iT 1 ((d.wait.filter (· != j)).map eI)])
 (k2 : ∀ w ws, d.run.contains j = true → d.wait.filter (· != j) = w :: ws → Q (.t [.i w, .i 0]) [.c [.w 1, .m 2], .cw 270 3 4 [.i a.n, .w 3, .w 4, .i b.n, .w 5, .w 6, .i c.n, .w 7, .w 8, .i d.n, .w 11, .w 12], .p .n 1 false (zdj mp (.n j)), .w iT 1 (a.run.map eI), .w iT 1 (a.wait.map eI), .w iT 1 (b.run.map eI), .w iT 1 (b.wait.map eI), .w iT 1 (c.run.map eI), .w iT 1 (c.wait.map eI), .x, .x, .w iT 1 ((zi1 w (d.run.filter (· != j))).map eI), .w iT 1 (ws.map eI)]) :
 PRun Tryz.prog 211 (MBy mp a b c d) [.r 0 0, .i j] Q := by
 refine S211k3 ?_
 rw [hm]
 simp only [mO, ug0, zbs]
 refine ⟨by first | trivial | rfl, by decide, by decide, zme (by omega) ?_⟩
 rw [zlm]
 refine zor (by omega) ?_
 rw [zc3]
 refine zor (by omega) ?_
 rw [zc3]
 have hf1 : (d.run.filter (· != j)).length ≤ d.run.length := z0b _ _
 have hf2 : (d.wait.filter (· != j)).length ≤ d.wait.length := z0b _ _
 cases hc : d.run.contains j with
 | false => exact k1 (.inl hc)
 | true =>
   rw [z0c, cond_false]
   cases hx : d.wait.filter (· != j) with
   | nil =>
     have := k1 (.inr hx)
     rw [hx] at this
     exact this
   | cons w ws =>
     rw [hx] at hf2
     simp only [zzg] at hf2
     simp only [zy2, zzg]
     refine cEq (fun e => by omega) fun _ => ⟨by decide, by omega, ?_⟩
     rw [zah (r := eI w) (by decide) rfl]
     simp only [eI, ug0, zbs]
     refine ⟨by decide, by omega, zzk _, ?_⟩
     have e : List.drop 1 (List.take (ws.length + 1) (zzf eI (w :: ws))) = ws.map eI := by
      rw [z0v (by simp)]; rfl
     rw [e]
     refine zey (by omega) ?_
     rw [zlj]
     refine zei (zgs hs) (by omega) fun q => ?_
     rw [zc4]
     refine zod (ze7 _ _) (by omega) ?_
     rw [zc2]
     exact k2 w ws hc hx
theorem free3 {of : Int} (h1 : 1 ≤ bay ∧ bay ≤ 2) (h2 : 0 ≤ of ∧ of ≤ 1) (hk : 2 * (bay - 1) + of = 3) (hl : d.run.length ≤ 8) (hn : 0 ≤ d.n ∧ d.n ≤ 8)
 (k1 : Q (.t [.i (d.n - (d.run.length : Int)), .i 0]) (MBy mp a b c d)) : PRun Tryz.prog 213 (MBy mp a b c d) [.r 0 0, .i bay, .i of] Q := by
 refine S213k3 (cIf (fun h => by omega) fun _ => ⟨by decide, ?_⟩)
 rw [zc0]
 refine cIf (fun h => by omega) fun _ => cIf (fun h => by omega) fun _ => cIf (fun h => by omega) fun _ => ⟨by rw [znl h1 h2]; exact hk, ?_⟩
 refine ⟨by decide, by decide, by decide, by decide, ?_⟩
 rw [zy2, w64 (by omega) (by omega)]
 exact k1
abbrev lnR (s : Sd) : List U := [.l 1 (s.run.map eI), .l 1 (s.wait.map eI)]
theorem lines_S0 (h : ∀ s ∈ [a, b, c, d], s.run.length ≤ 8 ∧ s.wait.length ≤ 8) (k : Q (.l 2 ([a, b, c, d].map lnR)) (MBy mp a b c d)) : PRun Tryz.prog 73 (MBy mp a b c d) [.r 0 0] Q := by
 have ha := h a (by simp); have hb := h b (by simp); have hc := h c (by simp); have hd := h d (by simp)
 have ap : ∀ (l m : List (List U)), l.length ≤ 3 → m.length = 1 → zan l m := fun l m h1 h2 => by unfold zan; omega
 refine S73 ⟨by decide, by decide, ?_⟩
 refine zc7 (by omega) ?_
 rw [zd8]
 refine zc7 (by omega) ?_
 rw [zd8]
 refine ⟨ap _ _ (by simp) rfl, ?_⟩
 refine ⟨by decide, by decide, ?_⟩
 refine zc7 (by omega) ?_
 rw [zd8]
 refine zc7 (by omega) ?_
 rw [zd8]
 refine ⟨ap _ _ (by simp) rfl, ?_⟩
 refine ⟨by decide, by decide, ?_⟩
 refine zc7 (by omega) ?_
 rw [zd8]
 refine zc7 (by omega) ?_
 rw [zd8]
 refine ⟨ap _ _ (by simp) rfl, ?_⟩
 refine ⟨by decide, by decide, ?_⟩
 refine zc7 (by omega) ?_
 rw [zd8]
 refine zc7 (by omega) ?_
 rw [zd8]
 refine ⟨ap _ _ (by simp) rfl, ?_⟩
 exact k
theorem leaveNo (hm : zbl mp (.n j) = none) (k : Q (.t [.i 0, .i 3]) (MBy mp a b c d)) : PRun Tryz.prog 211 (MBy mp a b c d) [.r 0 0, .i j] Q := by
 refine S211no ?_
 rw [hm]
 exact k
end
end
variable {s : Sd}
section
set_option maxRecDepth 1000000
variable {Q : V → Mem → Prop}
theorem PRun.packK (hr : zag args = [])
 (hh : ∀ m, S m → PRun P g m (.r 0 0 :: args) fun x m' => zae x = [] ∧ ∃ (ix : List Nat) (S' : Mem → Prop), (0 :: ix).Nodup ∧ zff m'.length (0 :: ix) = true ∧ zdy (0 :: ix) ((0 :: ix).flatMap fun b => za9 (mg m' b)) = true ∧ S' (zk6 m' (0 :: ix)) ∧ Q x [.o (Ob.of S')]) :
 PRun P g [.o (Ob.of S)] (.r 0 0 :: args) Q := by
 intro D ρ chs C h vs M F
 obtain ⟨L, rfl⟩ : ∃ L, ρ = [L] := by
  have := M.len
  match ρ, this with
  | [L], _ => exact ⟨L, rfl⟩
 obtain ⟨ch, rfl⟩ : ∃ c, chs = [c] := by
  have := M.lch
  match chs, this with
  | [c], _ => exact ⟨c, rfl⟩
 have he := M.ent 0 L _ ch rfl rfl rfl
 cases he with
 | o hf =>
   obtain ⟨m, ρ1, chs1, hS, l1, l2, ⟨L1, hL1, hb⟩, rfl, hent⟩ := hf
   have M1 : SAt D ρ1 m chs1 C h := ⟨l1, l2, hent, M.st.perm (by simp)⟩
   cases F with
   | cons h1 h2 =>
     obtain ⟨L', hL', rfl⟩ := h1.r_inv
     have : L' = L := by simpa using hL'.symm
     subst this
     have hp := Rp.r (D := D) (o := 0) hL1
     rw [hb] at hp
     have F1 := RpL.cons hp (zep (ρ' := ρ1) h2 hr)
     refine (hh m hS D ρ1 chs1 C h _ M1 F1).mono ?_
     rintro v h' ⟨D', s, chs', x, m', le, M', hv, hx, ix, S', hnd, hbl, hcl, hS', hQ⟩
     have hL2 : (ρ1 ++ s)[0]? = some L1 := by rw [zy7 (by have := (zyz.1 hL1).1; exact this)]; exact hL1
     obtain ⟨c', cs, -, -, Ms⟩ := M'.sub hnd (zbx hbl) fun b hb c hc => za0 hcl c (z1m.2 ⟨b, hb, hc⟩)
     have S2 : St D' (cs ++ C) h' := by
      have := Ms.st
      exact (this.perm (C' := c' ++ (cs ++ C)) (by simp only [zzs]; exact zz2 _ _ _)).drops
     refine ⟨D', [], [cs.flatten], x, [.o (Ob.of S')], le, ⟨rfl, rfl, ?_, S2.perm (by simp)⟩, zvv hv hx, hQ⟩
     rintro i K ab c q1 q2 q3
     cases i with
     | zero =>
       simp at q1 q2 q3
       subst q1 q2 q3
       exact .o ⟨_, _, cs, hS', Ms.len, Ms.lch, ⟨L1, by simp only [zzj, z2u]; rw [hL2]; rfl, hb⟩, rfl, Ms.ent⟩
     | succ i => simp at q2
structure BIv (mp : List (MK × List U)) (l : List Sd) : Prop where
 pos : ∀ (k : Nat) (s : Sd) (j : Int), l[k]? = some s → (j ∈ s.run ∨ j ∈ s.wait) → zbl mp (.n j) = some [.n (k : Int)]
 only : ∀ (j : Int) (r : List U), zbl mp (.n j) = some r → ∃ (k : Nat) (s : Sd), l[k]? = some s ∧ (j ∈ s.run ∨ j ∈ s.wait)
 nd : (mp.map (·.1)).Nodup
 srt : ∀ s ∈ l, s.run.Pairwise (· < ·)
 len : ∀ s ∈ l, (s.run.length : Int) ≤ s.n ∧ s.n ≤ 8 ∧ s.wait.length ≤ 8
theorem BIv.none {l : List Sd} (h : BIv mp l) (hn : ∀ s ∈ l, j ∉ s.run ∧ j ∉ s.wait) : zbl mp (.n j) = .none := by
 cases hg : zbl mp (.n j) with
 | none => rfl
 | some r =>
   obtain ⟨k, s, h1, h2⟩ := h.only j r hg
   have := hn s (zy4 h1)
   rcases h2 with h2 | h2
   · exact absurd h2 this.1
   · exact absurd h2 this.2
theorem zr8 {x : Int} : x ∈ zi1 j l ↔ x = j ∨ x ∈ l := by
 unfold zi1
 rw [zy6, zy3]
 have : x ∈ l ↔ x ∈ l.take (lbI j l) ∨ x ∈ l.drop (lbI j l) := by
  rw [← zy6, z0h]
 rw [this]
 constructor
 · rintro (h | h | h)
   · exact .inr (.inl h)
   · exact .inl h
   · exact .inr (.inr h)
 · rintro (h | h | h)
   · exact .inr (.inl h)
   · exact .inl h
   · exact .inr (.inr h)
theorem zl5 : (zi1 j l).length = l.length + 1 := zle (ze7 _ _)
theorem lbI_lt {t : Int} : ∀ {l : List Int} {x : Int}, x ∈ l.take (lbI t l) → x < t
 | [], x, h => by simp at h
 | y :: l, x, h => by
   simp only [lbI] at h
   split at h
   · rename_i hy
     rw [List.take_succ_cons] at h
     rcases zy3.1 h with rfl | h
     · exact hy
     · exact lbI_lt h
   · simp at h
theorem lbI_ge {t : Int} : ∀ {l : List Int} {x : Int}, l.Pairwise (· < ·) → x ∈ l.drop (lbI t l) → t ≤ x
 | [], x, _, h => by simp at h
 | y :: l, x, hs, h => by
   simp only [lbI] at h
   have h2 := zz5.1 hs
   split at h
   · rw [List.drop_succ_cons] at h
     exact lbI_ge h2.2 h
   · rename_i hy
     rw [z09] at h
     rcases zy3.1 h with rfl | h
     · omega
     · have := h2.1 x h; omega
theorem zsj (hs : l.Pairwise (· < ·)) (hj : j ∉ l) : (zi1 j l).Pairwise (· < ·) := by
 have e := z0h (lbI j l) l
 have hs2 : (l.take (lbI j l) ++ l.drop (lbI j l)).Pairwise (· < ·) := by rw [e]; exact hs
 obtain ⟨p1, p2, p3⟩ := z3m.1 hs2
 unfold zi1
 refine z3m.2 ⟨p1, zz5.2 ⟨fun x hx => ?_, p2⟩, fun x hx y hy => ?_⟩
 · have h1 := lbI_ge hs hx
   have h2 : x ≠ j := fun e => hj (e ▸ z1s hx)
   omega
 · rcases zy3.1 hy with rfl | hy
   · exact lbI_lt hx
   · exact p3 x hx y hy
theorem zbp {l : List Sd} {s' x : Sd} (hs : l[k]? = some s) (h : (l.set k s')[i]? = some x) : (i = k ∧ x = s') ∨ (i ≠ k ∧ l[i]? = some x) := by
 have hlt := (zyz.1 hs).1
 rw [List.getElem?_set] at h
 split at h
 · rename_i e
   subst e
   cases h
   exact .inl ⟨rfl, rfl⟩
 · rename_i e
   exact .inr ⟨fun h => e h.symm, h⟩
theorem zed {l : List Sd} {s' x : Sd} (hs : l[k]? = some s) (h : x ∈ l.set k s') : x = s' ∨ x ∈ l := by
 obtain ⟨i, hi⟩ := zz4.1 h
 rcases zbp hs hi with ⟨-, e⟩ | ⟨-, e⟩
 · exact .inl e
 · exact .inr (zy4 e)
theorem BIv.more {l : List Sd} (h : BIv mp l) {s' : Sd} (hs : l[k]? = some s) (hno : ∀ s ∈ l, j ∉ s.run ∧ j ∉ s.wait)
 (hm : ∀ x, (x ∈ s'.run ∨ x ∈ s'.wait) ↔ x = j ∨ (x ∈ s.run ∨ x ∈ s.wait)) (hsr : s'.run.Pairwise (· < ·)) (hln : (s'.run.length : Int) ≤ s'.n ∧ s'.n ≤ 8 ∧ s'.wait.length ≤ 8) : BIv (za1 mp (.n j) [.n (k : Int)]) (l.set k s') where
 pos i t x ht hx := by
  rw [za5]
  rcases zbp hs ht with ⟨rfl, rfl⟩ | ⟨hne, ht⟩
  · rcases (hm x).1 hx with rfl | hx
    · rw [if_pos rfl]
    · have : (MK.n j) ≠ .n x := fun e => by
       cases e
       have := hno s (zy4 hs)
       rcases hx with hx | hx
       · exact this.1 hx
       · exact this.2 hx
      rw [if_neg this]
      exact h.pos _ s x hs hx
  · have : (MK.n j) ≠ .n x := fun e => by
     cases e
     have := hno t (zy4 ht)
     rcases hx with hx | hx
     · exact this.1 hx
     · exact this.2 hx
    rw [if_neg this]
    exact h.pos i t x ht hx
 only x r hr := by
  have hlt := (zyz.1 hs).1
  have hk : (l.set k s')[k]? = some s' := by rw [zz3 hlt]
  rw [za5] at hr
  split at hr
  · rename_i e
    cases e
    exact ⟨k, s', hk, (hm j).2 (.inl rfl)⟩
  · obtain ⟨i, t, h1, h2⟩ := h.only x r hr
    by_cases e : i = k
    · subst e
      rw [hs] at h1
      cases h1
      exact ⟨i, s', hk, (hm x).2 (.inr h2)⟩
    · exact ⟨i, t, by rw [zzp (Ne.symm e)]; exact h1, h2⟩
 nd := zid _ _ h.nd
 srt t ht := by
  rcases zed hs ht with rfl | ht
  · exact hsr
  · exact h.srt t ht
 len t ht := by
  rcases zed hs ht with rfl | ht
  · exact hln
  · exact h.len t ht
theorem BIv.less {l : List Sd} (h : BIv mp l) {s' : Sd} (hs : l[k]? = some s) (hj : j ∈ s.run ∨ j ∈ s.wait)
 (hm : ∀ x, (x ∈ s'.run ∨ x ∈ s'.wait) ↔ x ≠ j ∧ (x ∈ s.run ∨ x ∈ s.wait)) (hsr : s'.run.Pairwise (· < ·)) (hln : (s'.run.length : Int) ≤ s'.n ∧ s'.n ≤ 8 ∧ s'.wait.length ≤ 8) : BIv (zdj mp (.n j)) (l.set k s') where
 pos i t x ht hx := by
  rw [zdq _ _ h.nd]
  rcases zbp hs ht with ⟨rfl, rfl⟩ | ⟨hne, ht⟩
  · obtain ⟨h1, h2⟩ := (hm x).1 hx
    rw [if_neg fun e => by cases e; exact h1 rfl]
    exact h.pos _ s x hs h2
  · have : x ≠ j := fun e => by
     subst e
     have a1 := h.pos i t x ht hx
     have a2 := h.pos k s x hs hj
     rw [a1] at a2
     simp at a2
     exact hne (by omega)
    rw [if_neg fun e => by cases e; exact this rfl]
    exact h.pos i t x ht hx
 only x r hr := by
  have hlt := (zyz.1 hs).1
  have hk : (l.set k s')[k]? = some s' := by rw [zz3 hlt]
  rw [zdq _ _ h.nd] at hr
  split at hr
  · cases hr
  · rename_i e
    obtain ⟨i, t, h1, h2⟩ := h.only x r hr
    by_cases e2 : i = k
    · subst e2
      rw [hs] at h1
      cases h1
      exact ⟨i, s', hk, (hm x).2 ⟨fun e3 => e (by rw [e3]), h2⟩⟩
    · exact ⟨i, t, by rw [zzp (Ne.symm e2)]; exact h1, h2⟩
 nd := zlc _ h.nd
 srt t ht := by
  rcases zed hs ht with rfl | ht
  · exact hsr
  · exact h.srt t ht
 len t ht := by
  rcases zed hs ht with rfl | ht
  · exact hln
  · exact h.len t ht
def zqw (l : List Sd) : Mem → Prop := fun M => ∃ (mp : List (MK × List U)) (a b c d : Sd), l = [a, b, c, d] ∧ BIv mp l ∧ M = MBy mp a b c d
abbrev bO (l : List Sd) : AB := .o (Ob.of (zqw l))
def zqx (s : Sd) (j : Int) : Sd := if (s.run.length : Int) < s.n then { s with run := zi1 j s.run } else { s with wait := s.wait ++ [j] }
def lvS (s : Sd) (j : Int) : Sd × Int :=
 match s.run.contains j, s.wait.filter (· != j) with
 | true, w :: ws => (⟨s.n, zi1 w (s.run.filter (· != j)), ws⟩, w)
 | _, ws => (⟨s.n, s.run.filter (· != j), ws⟩, 0)
theorem flt_mem {x : Int} : x ∈ l.filter (· != j) ↔ x ≠ j ∧ x ∈ l := by
 rw [z0f]
 simp only [bne_iff_ne, ne_eq]
 exact And.comm
theorem ask_S {l : List Sd} {of : Int} (h1 : 1 ≤ bay ∧ bay ≤ 2) (h2 : 0 ≤ of ∧ of ≤ 1) (hk : 2 * (bay - 1) + of = (k : Int)) (hs : l[k]? = some s) (hj : 1 ≤ j ∧ j ≤ 1099511627776) (hno : ∀ s ∈ l, j ∉ s.run ∧ j ∉ s.wait)
 (hroom : (s.run.length : Int) < s.n ∨ (s.n ≠ 0 ∧ s.wait.length < 8)) (K : Q (.t [.u (.b (decide ((s.run.length : Int) < s.n))), .i 0]) [bO (l.set k (zqx s j))]) : PRun Tryz.prog 199 [bO l] [.r 0 0, .i bay, .i of, .i j] Q := by
 refine PRun.packK (args := [.i bay, .i of, .i j]) rfl ?_
 rintro M ⟨mp, a, b, c, d, rfl, hI, rfl⟩
 have hn := hI.none hno
 have hls := hI.len s (zy4 hs)
 have hsr := hI.srt s (zy4 hs)
 have hns := hno s (zy4 hs)
 have r1 : (s.run.length : Int) < s.n → zqx s j = { s with run := zi1 j s.run } := fun h => by unfold zqx; rw [if_pos h]
 have r2 : ¬ (s.run.length : Int) < s.n → zqx s j = { s with wait := s.wait ++ [j] } := fun h => by unfold zqx; rw [if_neg h]
 have hB : BIv (za1 mp (.n j) [.n (k : Int)]) ([a, b, c, d].set k (zqx s j)) := by
  refine hI.more hs hno (fun x => ?_) ?_ ?_
  · by_cases h : (s.run.length : Int) < s.n
    · rw [r1 h]; simp only [zr8, or_assoc]
    · rw [r2 h]; simp only [zy6, z0s]
      constructor
      · rintro (h | h | h)
        · exact .inr (.inl h)
        · exact .inr (.inr h)
        · exact .inl h
      · rintro (h | h | h)
        · exact .inr (.inr h)
        · exact .inl h
        · exact .inr (.inl h)
  · by_cases h : (s.run.length : Int) < s.n
    · rw [r1 h]; exact zsj hsr hns.1
    · rw [r2 h]; exact hsr
  · by_cases h : (s.run.length : Int) < s.n
    · rw [r1 h]; simp only [zl5]; omega
    · rw [r2 h]; simp only [zzl, zzg, z0z]; omega
 match k, hk, hs, hB, K with
 | 0, hk, hs, hB, K =>
   have : a = s := by simpa using hs
   subst this
   refine ask0 h1 h2 hk hj hn hsr (by omega) (by omega) hroom (fun h => ?_) fun h => ?_
   · rw [r1 h] at hB K
     rw [decide_eq_true h] at K
     exact ⟨rfl, [1, 2, 11, 4, 5, 6, 7, 8, 9, 10], _, by decide, rfl, rfl, ⟨_, _, b, c, d, rfl, hB, rfl⟩, K⟩
   · rw [r2 h] at hB K
     rw [decide_eq_false h] at K
     refine ⟨rfl, [1, 2, 3, 11, 5, 6, 7, 8, 9, 10], _, by decide, rfl, rfl, ⟨_, _, b, c, d, rfl, hB, ?_⟩, K⟩
     simp only [MBy, zzr, zzj, z1n]
     rfl
 | 1, hk, hs, hB, K =>
   have : b = s := by simpa using hs
   subst this
   refine ask1 h1 h2 hk hj hn hsr (by omega) (by omega) hroom (fun h => ?_) fun h => ?_
   · rw [r1 h] at hB K
     rw [decide_eq_true h] at K
     exact ⟨rfl, [1, 2, 3, 4, 11, 6, 7, 8, 9, 10], _, by decide, rfl, rfl, ⟨_, a, _, c, d, rfl, hB, rfl⟩, K⟩
   · rw [r2 h] at hB K
     rw [decide_eq_false h] at K
     refine ⟨rfl, [1, 2, 3, 4, 5, 11, 7, 8, 9, 10], _, by decide, rfl, rfl, ⟨_, a, _, c, d, rfl, hB, ?_⟩, K⟩
     simp only [MBy, zzr, zzj, z1n]
     rfl
 | 2, hk, hs, hB, K =>
   have : c = s := by simpa using hs
   subst this
   refine ask2 h1 h2 hk hj hn hsr (by omega) (by omega) hroom (fun h => ?_) fun h => ?_
   · rw [r1 h] at hB K
     rw [decide_eq_true h] at K
     exact ⟨rfl, [1, 2, 3, 4, 5, 6, 11, 8, 9, 10], _, by decide, rfl, rfl, ⟨_, a, b, _, d, rfl, hB, rfl⟩, K⟩
   · rw [r2 h] at hB K
     rw [decide_eq_false h] at K
     refine ⟨rfl, [1, 2, 3, 4, 5, 6, 7, 11, 9, 10], _, by decide, rfl, rfl, ⟨_, a, b, _, d, rfl, hB, ?_⟩, K⟩
     simp only [MBy, zzr, zzj, z1n]
     rfl
 | 3, hk, hs, hB, K =>
   have : d = s := by simpa using hs
   subst this
   refine ask3 h1 h2 hk hj hn hsr (by omega) (by omega) hroom (fun h => ?_) fun h => ?_
   · rw [r1 h] at hB K
     rw [decide_eq_true h] at K
     exact ⟨rfl, [1, 2, 3, 4, 5, 6, 7, 8, 11, 10], _, by decide, rfl, rfl, ⟨_, a, b, c, _, rfl, hB, rfl⟩, K⟩
   · rw [r2 h] at hB K
     rw [decide_eq_false h] at K
     refine ⟨rfl, [1, 2, 3, 4, 5, 6, 7, 8, 9, 11], _, by decide, rfl, rfl, ⟨_, a, b, c, _, rfl, hB, ?_⟩, K⟩
     simp only [MBy, zzr, zzj, z1n]
     rfl
 | k + 4, hk, hs, hB, K => simp at hs
theorem leave_S {l : List Sd} (hs : l[k]? = some s) (hj : j ∈ s.run ∨ j ∈ s.wait) (hw : j ∈ s.wait → j ∉ s.run) (hd : (s.run ++ s.wait).Nodup) (K : Q (.t [.i (lvS s j).2, .i 0]) [bO (l.set k (lvS s j).1)]) :
 PRun Tryz.prog 211 [bO l] [.r 0 0, .i j] Q := by
 refine PRun.packK (args := [.i j]) rfl ?_
 rintro M ⟨mp, a, b, c, d, rfl, hI, rfl⟩
 have hm := hI.pos k s j hs hj
 have hls := hI.len s (zy4 hs)
 have hsr := hI.srt s (zy4 hs)
 have hf1 : (s.run.filter (· != j)).length ≤ s.run.length := z0b _ _
 have hf2 : (s.wait.filter (· != j)).length ≤ s.wait.length := z0b _ _
 have r1 : s.run.contains j = false ∨ s.wait.filter (· != j) = [] → lvS s j = (⟨s.n, s.run.filter (· != j), s.wait.filter (· != j)⟩, 0) := fun h => by
  unfold lvS
  rcases h with h | h
  · rw [h]
  · rw [h]; cases s.run.contains j <;> rfl
 have r2 : ∀ w ws, s.run.contains j = true → s.wait.filter (· != j) = w :: ws → lvS s j = (⟨s.n, zi1 w (s.run.filter (· != j)), ws⟩, w) := fun w ws h1 h2 => by
  unfold lvS
  rw [h1, h2]
 have hB : BIv (zdj mp (.n j)) ([a, b, c, d].set k (lvS s j).1) := by
  by_cases hc : s.run.contains j = true ∧ s.wait.filter (· != j) ≠ []
  · obtain ⟨w, ws, hx⟩ := List.exists_cons_of_ne_nil hc.2
    have hrun : j ∈ s.run := by simpa using hc.1
    have hww : w ∈ s.wait := (flt_mem.1 (hx ▸ zzq : w ∈ s.wait.filter (· != j))).2
    have hwr : w ∉ s.run := fun h => (z01.1 hd).2.2 w h w hww rfl
    have hlen : (s.run.filter (· != j)).length + 1 ≤ s.run.length := by
     have := List.length_filter_lt_length_iff_exists (l := s.run) (p := (· != j)) |>.2 ⟨j, hrun, by simp⟩
     omega
    rw [r2 w ws hc.1 hx]
    refine hI.less hs hj (fun x => ?_) ?_ ?_
    · simp only [zr8, flt_mem]
      have hxw : x ∈ s.wait.filter (· != j) ↔ x = w ∨ x ∈ ws := by rw [hx, zy3]
      rw [flt_mem] at hxw
      constructor
      · rintro ((h | h) | h)
        · have := hxw.2 (.inl h); exact ⟨this.1, .inr this.2⟩
        · exact ⟨h.1, .inl h.2⟩
        · have := hxw.2 (.inr h); exact ⟨this.1, .inr this.2⟩
      · rintro ⟨h1, h2 | h2⟩
        · exact .inl (.inr ⟨h1, h2⟩)
        · rcases hxw.1 ⟨h1, h2⟩ with h | h
          · exact .inl (.inl h)
          · exact .inr h
    · exact zsj (zgs hsr) fun h => hwr (flt_mem.1 h).2
    · rw [hx] at hf2
      simp only [zl5, zzg] at hf2 ⊢
      omega
  · have hor : s.run.contains j = false ∨ s.wait.filter (· != j) = [] := by
     by_cases h1 : s.run.contains j = true
     · by_cases h2 : s.wait.filter (· != j) = []
       · exact .inr h2
       · exact absurd ⟨h1, h2⟩ hc
     · exact .inl (by simpa using h1)
    rw [r1 hor]
    refine hI.less hs hj (fun x => ?_) (zgs hsr) (by simp only; omega)
    simp only [flt_mem]
    constructor
    · rintro (h | h)
      · exact ⟨h.1, .inl h.2⟩
      · exact ⟨h.1, .inr h.2⟩
    · rintro ⟨h1, h2 | h2⟩
      · exact .inl ⟨h1, h2⟩
      · exact .inr ⟨h1, h2⟩
 match k, hs, hB, K, hm with
 | 0, hs, hB, K, hm =>
   have : a = s := by simpa using hs
   subst this
   refine leave0 hm hsr (by omega) (by omega) (fun h => ?_) fun w ws h1 h2 => ?_
   · rw [r1 h] at hB K
     exact ⟨rfl, [1, 2, 11, 12, 5, 6, 7, 8, 9, 10], _, by decide, rfl, rfl, ⟨_, _, b, c, d, rfl, hB, rfl⟩, K⟩
   · rw [r2 w ws h1 h2] at hB K
     exact ⟨rfl, [1, 2, 11, 12, 5, 6, 7, 8, 9, 10], _, by decide, rfl, rfl, ⟨_, _, b, c, d, rfl, hB, rfl⟩, K⟩
 | 1, hs, hB, K, hm =>
   have : b = s := by simpa using hs
   subst this
   refine leave1 hm hsr (by omega) (by omega) (fun h => ?_) fun w ws h1 h2 => ?_
   · rw [r1 h] at hB K
     exact ⟨rfl, [1, 2, 3, 4, 11, 12, 7, 8, 9, 10], _, by decide, rfl, rfl, ⟨_, a, _, c, d, rfl, hB, rfl⟩, K⟩
   · rw [r2 w ws h1 h2] at hB K
     exact ⟨rfl, [1, 2, 3, 4, 11, 12, 7, 8, 9, 10], _, by decide, rfl, rfl, ⟨_, a, _, c, d, rfl, hB, rfl⟩, K⟩
 | 2, hs, hB, K, hm =>
   have : c = s := by simpa using hs
   subst this
   refine leave2 hm hsr (by omega) (by omega) (fun h => ?_) fun w ws h1 h2 => ?_
   · rw [r1 h] at hB K
     exact ⟨rfl, [1, 2, 3, 4, 5, 6, 11, 12, 9, 10], _, by decide, rfl, rfl, ⟨_, a, b, _, d, rfl, hB, rfl⟩, K⟩
   · rw [r2 w ws h1 h2] at hB K
     exact ⟨rfl, [1, 2, 3, 4, 5, 6, 11, 12, 9, 10], _, by decide, rfl, rfl, ⟨_, a, b, _, d, rfl, hB, rfl⟩, K⟩
 | 3, hs, hB, K, hm =>
   have : d = s := by simpa using hs
   subst this
   refine leave3 hm hsr (by omega) (by omega) (fun h => ?_) fun w ws h1 h2 => ?_
   · rw [r1 h] at hB K
     exact ⟨rfl, [1, 2, 3, 4, 5, 6, 7, 8, 11, 12], _, by decide, rfl, rfl, ⟨_, a, b, c, _, rfl, hB, rfl⟩, K⟩
   · rw [r2 w ws h1 h2] at hB K
     exact ⟨rfl, [1, 2, 3, 4, 5, 6, 7, 8, 11, 12], _, by decide, rfl, rfl, ⟨_, a, b, c, _, rfl, hB, rfl⟩, K⟩
 | k + 4, hs, hB, K, hm => simp at hs
theorem leave0_S {l : List Sd} (hn : ∀ s ∈ l, j ∉ s.run ∧ j ∉ s.wait) (K : Q (.t [.i 0, .i 3]) [bO l]) : PRun Tryz.prog 211 [bO l] [.r 0 0, .i j] Q := by
 refine PRun.packK (args := [.i j]) rfl ?_
 rintro M ⟨mp, a, b, c, d, rfl, hI, rfl⟩
 exact leaveNo (hI.none hn) ⟨rfl, [1, 2, 3, 4, 5, 6, 7, 8, 9, 10], _, by decide, rfl, rfl, ⟨_, a, b, c, d, rfl, hI, rfl⟩, K⟩
theorem free_S {l : List Sd} {of : Int} (h1 : 1 ≤ bay ∧ bay ≤ 2) (h2 : 0 ≤ of ∧ of ≤ 1) (hk : 2 * (bay - 1) + of = (k : Int)) (hs : l[k]? = some s) (K : Q (.t [.i (s.n - (s.run.length : Int)), .i 0]) [bO l]) :
 PRun Tryz.prog 213 [bO l] [.r 0 0, .i bay, .i of] Q := by
 refine PRun.packK (args := [.i bay, .i of]) rfl ?_
 rintro M ⟨mp, a, b, c, d, rfl, hI, rfl⟩
 have hls := hI.len s (zy4 hs)
 match k, hk, hs with
 | 0, hk, hs =>
   have : a = s := by simpa using hs
   subst this
   exact free0 h1 h2 hk (by omega) (by omega) ⟨rfl, [1, 2, 3, 4, 5, 6, 7, 8, 9, 10], _, by decide, rfl, rfl, ⟨_, a, b, c, d, rfl, hI, rfl⟩, K⟩
 | 1, hk, hs =>
   have : b = s := by simpa using hs
   subst this
   exact free1 h1 h2 hk (by omega) (by omega) ⟨rfl, [1, 2, 3, 4, 5, 6, 7, 8, 9, 10], _, by decide, rfl, rfl, ⟨_, a, b, c, d, rfl, hI, rfl⟩, K⟩
 | 2, hk, hs =>
   have : c = s := by simpa using hs
   subst this
   exact free2 h1 h2 hk (by omega) (by omega) ⟨rfl, [1, 2, 3, 4, 5, 6, 7, 8, 9, 10], _, by decide, rfl, rfl, ⟨_, a, b, c, d, rfl, hI, rfl⟩, K⟩
 | 3, hk, hs =>
   have : d = s := by simpa using hs
   subst this
   exact free3 h1 h2 hk (by omega) (by omega) ⟨rfl, [1, 2, 3, 4, 5, 6, 7, 8, 9, 10], _, by decide, rfl, rfl, ⟨_, a, b, c, d, rfl, hI, rfl⟩, K⟩
 | k + 4, hk, hs => simp at hs
theorem zw6 {l : List Sd} (K : Q (.l 2 (l.map lnR)) [bO l]) : PRun Tryz.prog 73 [bO l] [.r 0 0] Q := by
 refine PRun.packK (args := []) rfl ?_
 rintro M ⟨mp, a, b, c, d, rfl, hI, rfl⟩
 exact lines_S0 (fun s hs => by have := hI.len s hs; omega) ⟨rfl, [1, 2, 3, 4, 5, 6, 7, 8, 9, 10], _, by decide, rfl, rfl, ⟨_, a, b, c, d, rfl, hI, rfl⟩, K⟩
end
section
open Go.Shelf
variable {Q : V → Mem → Prop}
theorem call339 : zbh Tryz.prog 339 := ⟨_, Tryz.func339, by kernel_rfl, by kernel_rfl⟩
theorem mul64_S (x y : Nat) (hx : x < 18446744073709551616) (hy : y < 18446744073709551616)
 (k : Q (.t [.u (.i .u64 ((x * y / 18446744073709551616 : Nat) : Int)), .u (.i .u64 ((x * y % 18446744073709551616 : Nat) : Int))]) []) :
 PRun Tryz.prog 339 [] [.u (.i .u64 x), .u (.i .u64 y)] Q := by
 refine .keep fun D C h vs S F => ?_
 obtain ⟨v, w, rfl, h1, h2⟩ := F.two
 rw [Rd.int_iff.1 h1.u_inv, Rd.int_iff.1 h2.u_inv]
 refine ⟨call339, fun w hw => (Any.bits_Mul64 Tryz.lays264 x y hx hy w).mono ?_⟩
 rintro e w' ⟨rfl, rfl⟩
 exact ⟨_, rfl, ⟨hw ▸ .refl _ _, _, .t (.cons (.u (.int _ _)) (.cons (.u (.int _ _)) .nil)), k⟩, .refl _⟩
def upI (n by0 : Int) : Int := (n + by0 - 1) / by0
theorem zk9 {a b c : Int} (ha : 0 ≤ a ∧ a ≤ 9223372036854775807) (hb : 0 ≤ b ∧ b ≤ 9223372036854775807) (hc : 1 ≤ c ∧ c ≤ 9223372036854775807)
 (hm : a * b ≤ 9223372036854775807) (k : Q (.t [.i (upI (a * b) c), .i 0]) []) :
 PRun Tryz.prog 286 [] [.i a, .i b, .i c, .u (.b true)] Q := by
 obtain ⟨x, rfl⟩ := z04 ha.1
 obtain ⟨y, rfl⟩ := z04 hb.1
 refine S286 (cIf (fun h => by omega) fun _ => cIf (fun h => by omega) fun _ => cIf (fun h => by omega) fun _ => ?_)
 rw [znf (x := (x : Int)) (by omega) (by omega), znf (x := (y : Int)) (by omega) (by omega), znf (x := c) (by omega) (by omega)]
 rw [← Int.natCast_mul] at hm k
 refine mul64_S x y (by omega) (by omega) ?_
 rw [zwe, Nat.div_eq_of_lt (by omega), Nat.mod_eq_of_lt (by omega)]
 have h0 : (0 : Int) ≤ (x * y : Nat) := z1h _
 generalize ((x * y : Nat) : Int) = p at *
 refine cIf (fun h => by simp only [Int.natCast_zero] at h; omega) fun _ => ?_
 refine S340z (cB (fun h => by simp at h; omega) fun _ => cIf (fun h => by omega) fun _ => ⟨by omega, by omega, ?_⟩)
 rw [zwe, Int.tdiv_eq_ediv_of_nonneg h0, Int.tmod_eq_emod_of_nonneg h0, cond_true]
 have q0 : 0 ≤ p / c := Int.ediv_nonneg h0 (by omega)
 have q1 : p / c ≤ p := Int.ediv_le_self _ h0
 have r0 := Int.emod_nonneg p (show c ≠ 0 by omega)
 have r1 := Int.emod_lt_of_pos p (show 0 < c by omega)
 have e : upI p c = (p % c + c - 1) / c + p / c := by
  unfold upI
  rw [← z3n _ _ (show c ≠ 0 by omega), show p % c + c - 1 + c * (p / c) = p + c - 1 by have := z3o p c; omega]
 have q2 : 0 < p % c → p / c < p := fun h => Int.not_le.1 fun hh => by
  have := z3o p c
  have := Int.mul_le_mul_of_nonneg_right hc.1 q0
  omega
 rw [znf q0 (by omega)]
 refine cIf (fun hr0 => ?_) fun hr0 => ?_
 · rw [show p % c + c - 1 = (p % c - 1) + c * 1 by omega, z3n _ _ (show c ≠ 0 by omega), z3p (by omega) (by omega)] at e
   have := q2 (by omega)
   refine cIf (fun _ => ?_) fun h => by omega
   rw [znf (by omega) (by omega)]
   refine cIf (fun h => by omega) fun _ => ?_
   rw [w64 (by omega) (by omega), show p / c + 1 = upI p c by omega]
   exact k
 · rw [show p % c + c - 1 = c - 1 by omega, z3p (by omega) (by omega)] at e
   refine cIf (fun h => by omega) fun _ => ?_
   rw [w64 (by omega) (by omega), show p / c = upI p c by omega]
   exact k
structure Bl where
 makes : Int
 per : Int
 time : Int
 needs : List Stk
 copy : Int
 study : Int
 most : Int
def eB (b : Bl) : List U := [.n b.makes, .n b.per, .n b.time, .l 2 (b.needs.map eS), .n b.copy, .n b.study, .n b.most]
abbrev aB (b : Bl) : V := .a [.i b.makes, .i b.per, .i b.time, .l 2 (b.needs.map eS), .i b.copy, .i b.study, .i b.most]
structure Bl.Rg (b : Bl) : Prop where
 r : rng b.needs
 n : b.needs.length ≤ 1000
def zgu (b : Bl) (types : Int) : List Bnd := [(types, 0, 32), (b.makes, 1, types), (b.per, 1, 1048576), (b.time, 1, 1048576), (b.copy, 0, 1048576), (b.study, 0, 1048576), (b.most, 1, 1000)]
noncomputable def zd1 (b : Bl) (types : Int) : Int := if ze0 (zgu b types) = true ∧ zfe b.needs types = 0 ∧ ¬ 0 < zuq b.needs b.makes then 0 else 1
structure BlueOK (b : Bl) (types : Int) : Prop where
 ty : 0 ≤ types ∧ types ≤ 32
 makes : 1 ≤ b.makes ∧ b.makes ≤ types
 per : 1 ≤ b.per ∧ b.per ≤ 1048576
 time : 1 ≤ b.time ∧ b.time ≤ 1048576
 copy : 0 ≤ b.copy ∧ b.copy ≤ 1048576
 study : 0 ≤ b.study ∧ b.study ≤ 1048576
 most : 1 ≤ b.most ∧ b.most ≤ 1000
 needs : CheckOK b.needs types
 self : ¬ 0 < zuq b.needs b.makes
theorem inAll_B {b : Bl} {types : Int} : ze0 (zgu b types) = true ↔ (0 ≤ types ∧ types ≤ 32) ∧ (1 ≤ b.makes ∧ b.makes ≤ types) ∧ (1 ≤ b.per ∧ b.per ≤ 1048576) ∧ (1 ≤ b.time ∧ b.time ≤ 1048576) ∧ (0 ≤ b.copy ∧ b.copy ≤ 1048576) ∧ (0 ≤ b.study ∧ b.study ≤ 1048576) ∧ 1 ≤ b.most ∧ b.most ≤ 1000 := by
 simp only [ze0, zgu, z1g, z18, z19, zyy, zgr]
theorem blueE_ok {b : Bl} {types : Int} : zd1 b types = 0 ↔ BlueOK b types := by
 unfold zd1
 constructor
 · intro h
   split at h
   · rename_i hh
     obtain ⟨h1, h2, h3⟩ := hh
     obtain ⟨a1, a2, a3, a4, a5, a6, a7⟩ := inAll_B.1 h1
     exact ⟨a1, a2, a3, a4, a5, a6, a7, chkE_iff.1 h2, h3⟩
   · cases h
 · intro ⟨a1, a2, a3, a4, a5, a6, a7, h2, h3⟩
   rw [if_pos ⟨inAll_B.2 ⟨a1, a2, a3, a4, a5, a6, a7⟩, chkE_iff.2 h2, h3⟩]
section
variable {b : Bl} {types : Int}
theorem zp1 (hb : b.Rg) (k : Q (.i (zd1 b types)) []) : PRun Tryz.prog 270 [] [aB b, .i types] Q := by
 have bad : ¬ (ze0 (zgu b types) = true ∧ zfe b.needs types = 0 ∧ ¬ 0 < zuq b.needs b.makes) → Q (.i 1) [] := fun h => by unfold zd1 at k; rwa [if_neg h] at k
 refine S270 (fits_S (L := zgu b types) (by simp [zgu]) ?_)
 rw [zb7]
 refine zhp (cB (fun h1 => zhj (by have := hb.n; omega) ?_) fun h1 => bad (by simp [h1]))
 rw [zaw]
 refine cNe (fun h2 => bad (by simp [h2])) fun h2 => pCount_S hb.r hb.n ?_
 rw [zaw]
 refine cIf (fun h3 => bad fun h => h.2.2 h3) fun h3 => ?_
 unfold zd1 at k; rwa [if_pos ⟨h1, h2, h3⟩] at k
theorem znv {L : List Bnd} (hb : b.Rg) (hL : L.length ≤ 1000) (k : Q (.u (.b (decide (zd1 b 32 = 0) && ze0 L))) []) : PRun Tryz.prog 285 [] [aB b, .l 3 (L.map eF)] Q := by
 refine S285 (zp1 hb ?_)
 rw [zaw]
 refine cEq (fun h => fits_S (by omega) ?_) fun h => ?_
 · rw [zb7]; rwa [decide_eq_true h, Bool.true_and] at k
 · rwa [decide_eq_false h, Bool.false_and] at k
def zjx (q runs level : Int) : Int := max runs (upI (q * (runs * (100 - level))) 100)
def zhk (l : List Stk) (runs level : Int) : Bool := l.any fun s => decide (zjm < zjx s.2 runs level)
def zjz (l : List Stk) (runs level : Int) : List Stk := l.map fun s => (s.1, zjx s.2 runs level)
noncomputable def zio (b : Bl) (level runs : Int) : List Stk × Int :=
 if (zd1 b 32 = 0 ∧ inn level 0 10 = true) ∧ inn runs 1 1000 = true then (if zhk b.needs runs level = true then ([], 5) else (zjz b.needs runs level, 0)) else ([], 1)
noncomputable def ztd (b : Bl) (level runs : Int) : Int × Int :=
 if (zd1 b 32 = 0 ∧ inn level 0 10 = true) ∧ inn runs 1 1000 = true then (upI (b.time * runs * (100 - 2 * level)) 100, 0) else (0, 1)
abbrev vSE (r : List Stk × Int) : V := .t [.l 2 (r.1.map eS), .i r.2]
abbrev vII (r : Int × Int) : V := .t [.i r.1, .i r.2]
theorem need_bd {q : Int} (hq : 1 ≤ q ∧ q ≤ zjm) (hr : 1 ≤ runs ∧ runs ≤ 1000) (hl : 0 ≤ level ∧ level ≤ 10) :
 0 ≤ runs * (100 - level) ∧ runs * (100 - level) ≤ 100000 ∧ 0 ≤ q * (runs * (100 - level)) ∧ q * (runs * (100 - level)) ≤ 112589990684262400000 := by
 have h1 := z1u hr.2 (show 100 - level ≤ 100 by omega) (by omega) (by omega)
 have h2 := z2l (show 0 ≤ runs by omega) (show 0 ≤ 100 - level by omega)
 have h3 := z2l (show 0 ≤ q by omega) h2
 have h4 := z1u hq.2 h1 h2 (by unfold zjm; omega)
 unfold zjm at h4
 exact ⟨h2, by omega, h3, by omega⟩
theorem upI_bd {b : Int} (hn : 0 ≤ n) (hb : 1 ≤ b) : 0 ≤ upI n b ∧ upI n b ≤ n := by
 unfold upI
 refine ⟨Int.ediv_nonneg (by omega) (by omega), ?_⟩
 refine Int.lt_add_one_iff.1 (Int.ediv_lt_of_lt_mul (by omega) ?_)
 have := Int.mul_le_mul_of_nonneg_left hb hn
 rw [Int.mul_one] at this
 rw [Int.add_mul, Int.one_mul]
 omega
theorem zu7 {t : Int} (ht : 1 ≤ t ∧ t ≤ 1048576) (hr : 1 ≤ runs ∧ runs ≤ 1000) (hl : 0 ≤ level ∧ level ≤ 10) :
 0 ≤ t * runs ∧ t * runs ≤ 1048576000 ∧ 0 ≤ t * runs * (100 - 2 * level) ∧ t * runs * (100 - 2 * level) ≤ 104857600000 := by
 have h1 := z2l (show 0 ≤ t by omega) (show 0 ≤ runs by omega)
 have h2 := z1u ht.2 hr.2 (by omega) (by omega)
 have h3 := z2l h1 (show 0 ≤ 100 - 2 * level by omega)
 have h4 := z1u h2 (show 100 - 2 * level ≤ 100 by omega) (by omega) (by omega)
 exact ⟨h1, by omega, h3, by omega⟩
theorem zjy {l : List Stk} (h : ∀ s ∈ l, ¬ zjm < zjx s.2 runs level) : zhk l runs level = false := by
 unfold zhk
 rw [List.any_eq_false]
 intro x hx
 simpa using h x hx
theorem pNeeds_S (hb : b.Rg) (hq : ∀ s ∈ b.needs, s.2 ≤ 1099511627776) (k : Q (vSE (zio b level runs)) []) : PRun Tryz.prog 184 [] [aB b, .i level, .i runs] Q := by
 refine S184 (znv (L := [(level, 0, 10), (runs, 1, 1000)]) hb (by simp) ?_)
 rw [zb7]
 refine zhp (cB (fun h1 => ?_) fun h1 => ?_)
 rotate_left
 · unfold zio at k; rwa [if_neg] at k; rintro ⟨⟨a1, a2⟩, a3⟩; simp [ze0, a1, a2, a3] at h1
 simp only [ze0, z1g, z18, z19, zyy, decide_eq_true_eq] at h1
 obtain ⟨b1, b2, b3⟩ := h1
 unfold zio at k
 rw [if_pos ⟨⟨b1, b2⟩, b3⟩] at k
 have ok := (blueE_ok.1 b1).needs
 rw [zgr] at b2 b3
 refine ⟨fun l x => AtI b.needs (fun t _ => l = (zjz t runs level).map eS ∧ ∀ s ∈ t, ¬ zjm < zjx s.2 runs level) x, fun _ => zq1 b.needs, .zero (by have := hb.n; omega) ⟨rfl, by simp⟩, ?_⟩
 rintro _ x ⟨t, _ | ⟨s, l⟩, w, rfl, hne⟩
 · rw [w.all] at hne ⊢
   rw [w.d0]
   rwa [zjy hne] at k
 · have hmem : s ∈ b.needs := by rw [w.e]; simp
   have hs := ok.el s hmem
   have hlt := congrArg zyv w.e
   have hn := hb.n
   simp at hlt
   simp only [w.d1, w.el, eS, ug0, ugs, zbs, cond_true]
   obtain ⟨d0, d1, d2, d3⟩ := need_bd (q := s.2) ⟨hs.2.2.1, hs.2.2.2⟩ b3 b2
   have hs1 := hs.2.2.1
   have hs2 := hq _ hmem
   rw [w64 (x := 100 - level) (by omega) (by omega), w64 (x := runs * (100 - level)) (by omega) (by omega)]
   have d4 := z1u hs2 d1 d0 (by omega)
   refine zk9 (by omega) (by omega) (by omega) (by omega) ?_
   rw [zb1]
   refine cNe (fun h => absurd rfl h) fun _ => ?_
   have em : (if runs > upI (s.2 * (runs * (100 - level))) 100 then runs else upI (s.2 * (runs * (100 - level))) 100) = zjx s.2 runs level := by unfold zjx; split <;> omega
   simp only [em]
   refine cIf (fun ho => ?_) fun ho => ?_
   · have hov : zhk b.needs runs level = true := List.any_eq_true.2 ⟨s, hmem, decide_eq_true (by unfold zjm; exact ho)⟩
     rwa [if_pos hov] at k
   · refine ⟨apOk_l (by simp [zjz]; omega), w.step ⟨by simp [zjz, eS], fun u hu => ?_⟩⟩
     rcases zy6.1 hu with hu | hu
     · exact hne u hu
     · simp at hu; subst hu; exact ho
theorem pTime_S (hb : b.Rg) (k : Q (vII (ztd b level runs)) []) : PRun Tryz.prog 185 [] [aB b, .i level, .i runs] Q := by
 refine S185 (znv (L := [(level, 0, 10), (runs, 1, 1000)]) hb (by simp) ?_)
 rw [zb7]
 refine zhp (cB (fun h1 => ?_) fun h1 => ?_)
 rotate_left
 · unfold ztd at k; rwa [if_neg] at k; rintro ⟨⟨a1, a2⟩, a3⟩; simp [ze0, a1, a2, a3] at h1
 simp only [ze0, z1g, z18, z19, zyy, decide_eq_true_eq] at h1
 obtain ⟨b1, b2, b3⟩ := h1
 unfold ztd at k
 rw [if_pos ⟨⟨b1, b2⟩, b3⟩] at k
 have ok := (blueE_ok.1 b1).time
 rw [zgr] at b2 b3
 obtain ⟨t0, t1, t2, t3⟩ := zu7 ok b3 b2
 rw [w64 (x := b.time * runs) (by omega) (by omega), w64 (x := 2 * level) (by omega) (by omega), w64 (x := 100 - 2 * level) (by omega) (by omega)]
 refine zk9 (by omega) (by omega) (by omega) (by omega) ?_
 rw [zb1]
 exact k
end
end
variable {b : Bl}
section
set_option maxRecDepth 1000000
variable {Q : V → Mem → Prop}
structure Yb where
 place : Int
 make : Int
 lab : Int
 rate : Int
structure Kt where
 ty : Int
 bl : List Bl
 pl : Int
 bays : List Yb
 ch : Int
abbrev eYb (y : Yb) : List U := [.n y.place, .n y.make, .n y.lab, .n y.rate]
abbrev yVb (y : Yb) : V := .a [.i y.place, .i y.make, .i y.lab, .i y.rate]
abbrev ctV (C : Kt) : V := .a [.i C.ty, .l 7 (C.bl.map eB), .i C.pl, .l 4 (C.bays.map eYb), .i C.ch, .i 200, .i 1, .i 500]
def bZ : Bl := ⟨0, 0, 0, [], 0, 0, 0⟩
def yZ : Yb := ⟨0, 0, 0, 0⟩
theorem zli {F : Int → Int → Int → Int → Int → Prop} {y : Yb} : post [.agg [.i .i64, .i .i64, .i .i64, .i .i64], .I] [] F (.t [yVb y, .i e]) [] = F y.place y.make y.lab y.rate e := rfl
theorem zwc {F : Int → Int → Int → List (List U) → Int → Int → Int → Int → Prop} : post [.agg [.i .i64, .i .i64, .i .i64, .l 2, .i .i64, .i .i64, .i .i64], .I] [] F (.t [aB b, .i e]) [] = F b.makes b.per b.time (b.needs.map eS) b.copy b.study b.most e := rfl
theorem bay_S {C : Kt} (hl : C.bays.length ≤ 1000) (k1 : (n < 1 ∨ (C.bays.length : Int) < n) → Q (.t [yVb yZ, .i 3]) []) (k2 : ∀ (i : Nat) (y : Yb), C.bays[i]? = some y → n = (i : Int) + 1 → Q (.t [yVb y, .i 0]) []) :
 PRun Tryz.prog 180 [] [ctV C, .i n] Q := by
 have hlen : ((C.bays.map eYb).length : Int) = (C.bays.length : Int) := by rw [zy2]
 refine S180 (S282 (zmn (a := 1) (b := ((C.bays.map eYb).length : Int)) (fun h => ?_) fun h => ?_))
 · show Q (.t [yVb yZ, .i 3]) []
   refine k1 ?_
   have : ¬ (1 ≤ n ∧ n ≤ ((C.bays.map eYb).length : Int)) := fun hh => by rw [inJ_iff.2 hh] at h; cases h
   omega
 · have h := inJ_iff.1 h
   obtain ⟨i, hi⟩ := z04 (show 0 ≤ n - 1 by omega)
   have hlt : i < C.bays.length := by omega
   have hg := zy0 hlt
   rw [w64 (x := n - 1) (by omega) (by omega), zah (r := eYb C.bays[i]) (by omega) (by rw [hi, zzm, zy5, hg]; rfl)]
   simp only [eYb, ug0, ugs, zbs]
   exact k2 i _ hg (by omega)
theorem blue_S {C : Kt} (hl : C.bl.length ≤ 1000) (k1 : (n < 1 ∨ (C.bl.length : Int) < n) → Q (.t [aB bZ, .i 3]) []) (k2 : ∀ (i : Nat) (b : Bl), C.bl[i]? = some b → n = (i : Int) + 1 → Q (.t [aB b, .i 0]) []) :
 PRun Tryz.prog 182 [] [ctV C, .i n] Q := by
 have hlen : ((C.bl.map eB).length : Int) = (C.bl.length : Int) := by rw [zy2]
 refine S182 (S284 (zmn (a := 1) (b := ((C.bl.map eB).length : Int)) (fun h => ?_) fun h => ?_))
 · show Q (.t [aB bZ, .i 3]) []
   refine k1 ?_
   have : ¬ (1 ≤ n ∧ n ≤ ((C.bl.map eB).length : Int)) := fun hh => by rw [inJ_iff.2 hh] at h; cases h
   omega
 · have h := inJ_iff.1 h
   obtain ⟨i, hi⟩ := z04 (show 0 ≤ n - 1 by omega)
   have hlt : i < C.bl.length := by omega
   have hg := zy0 hlt
   rw [w64 (x := n - 1) (by omega) (by omega), zah (r := eB C.bl[i]) (by omega) (by rw [hi, zzm, zy5, hg]; rfl)]
   simp only [eB, ug0, ugs, zbs, dL_l]
   exact k2 i _ hg (by omega)
section
variable {b : Bl}
noncomputable def ze2 (b : Bl) (level steps : Int) : Int × Int := if zd1 b 32 = 0 ∧ inJ level 0 10 = true ∧ inJ steps 1 (10 - level) = true then (b.study * ((level + steps) * (level + steps + 1) - level * (level + 1)) / 2, 0) else (0, 1)
noncomputable def zt9 (b : Bl) (copies runs : Int) : Int × Int := if zd1 b 32 = 0 ∧ inJ copies 1 10 = true ∧ inJ runs 1 b.most = true then (b.copy * copies * runs, 0) else (0, 1)
noncomputable def zkk (b : Bl) (runs : Int) : Stk × Int := if zd1 b 32 = 0 ∧ inJ runs 1 1000 = true then ((b.makes, b.per * runs), 0) else ((0, 0), 1)
theorem zqj {a b : Int} : inn n a b = inJ n a b := by
 rw [Bool.eq_iff_iff, zgr, inJ_iff]
theorem zec {x y X Y : Int} (h0 : 0 ≤ x) (h1 : x ≤ X) (h2 : 0 ≤ y) (h3 : y ≤ Y) : 0 ≤ x * y ∧ x * y ≤ X * Y := ⟨z2l h0 h2, z1u h1 h3 h2 (by omega)⟩
theorem zre {st steps : Int} (hs : 0 ≤ st ∧ st ≤ 1048576) (hl : 0 ≤ level ∧ level ≤ 10) (h2 : 1 ≤ steps ∧ steps ≤ 10 - level) :
 (0 ≤ (level + steps) * (level + steps + 1) ∧ (level + steps) * (level + steps + 1) ≤ 110) ∧ (0 ≤ level * (level + 1) ∧ level * (level + 1) ≤ 110) ∧ (0 ≤ (level + steps) * (level + steps + 1) - level * (level + 1)) ∧ 0 ≤ st * ((level + steps) * (level + steps + 1) - level * (level + 1)) ∧ st * ((level + steps) * (level + steps + 1) - level * (level + 1)) ≤ 115343360 := by
 have a1 := zec (x := level + steps) (y := level + steps + 1) (X := 10) (Y := 11) (by omega) (by omega) (by omega) (by omega)
 have a2 := zec (x := level) (y := level + 1) (X := level + steps) (Y := level + steps + 1) (by omega) (by omega) (by omega) (by omega)
 generalize (level + steps) * (level + steps + 1) = A at *
 generalize level * (level + 1) = B at *
 have a3 := zec (x := st) (y := A - B) (X := 1048576) (Y := 110) hs.1 hs.2 (by omega) (by omega)
 generalize st * (A - B) = S at *
 omega
theorem zu9 {steps : Int} (hb : b.Rg) (h0 : 0 ≤ level ∧ level ≤ 10) (k : Q (vII (ze2 b level steps)) []) : PRun Tryz.prog 186 [] [aB b, .i level, .i steps] Q := by
 refine S186 (znv (L := [(level, 0, 10), (steps, 1, zyu .i64 (10 - level))]) hb (by simp) ?_)
 rw [zb7, w64 (x := 10 - level) (by omega) (by omega)]
 simp only [ze0, z1g, z18, z19, zqj]
 unfold ze2 at k
 refine zhp (cB (fun h1 => ?_) fun h1 => ?_)
 · simp only [zyy, decide_eq_true_eq] at h1
   rw [if_pos h1] at k
   obtain ⟨c1, c2, c3⟩ := h1
   have ok := (blueE_ok.1 c1).study
   rw [inJ_iff] at c2 c3
   obtain ⟨p1, p2, p3, p4, p5⟩ := zre ok c2 c3
   refine ⟨by decide, ?_⟩
   rw [w64 (x := level + steps) (by omega) (by omega), w64 (x := level + steps + 1) (by omega) (by omega), w64 (x := level + 1) (by omega) (by omega), w64 (x := (level + steps) * (level + steps + 1)) (by omega) (by omega), w64 (x := level * (level + 1)) (by omega) (by omega),
    w64 (x := (level + steps) * (level + steps + 1) - level * (level + 1)) (by omega) (by omega), w64 (x := b.study * _) (by omega) (by omega), Int.tdiv_eq_ediv_of_nonneg p4, w64 (by omega) (by omega)]
   exact k
 · rw [if_neg] at k
   · exact k
   · rintro ⟨c1, c2, c3⟩
     rw [decide_eq_true c1, c2, c3] at h1
     cases h1
theorem copy_S {copies : Int} (hb : b.Rg) (k : Q (vII (zt9 b copies runs)) []) : PRun Tryz.prog 187 [] [aB b, .i copies, .i runs] Q := by
 refine S187 (znv (L := [(copies, 1, 10), (runs, 1, b.most)]) hb (by simp) ?_)
 rw [zb7]
 simp only [ze0, z1g, z18, z19, zqj]
 unfold zt9 at k
 refine zhp (cB (fun h1 => ?_) fun h1 => ?_)
 · simp only [zyy, decide_eq_true_eq] at h1
   rw [if_pos h1] at k
   obtain ⟨c1, c2, c3⟩ := h1
   have ok := blueE_ok.1 c1
   have o1 := ok.copy; have o2 := ok.most
   rw [inJ_iff] at c2 c3
   have a1 := zec (x := b.copy) (y := copies) (X := 1048576) (Y := 10) (by omega) (by omega) (by omega) (by omega)
   have a2 := zec (x := b.copy * copies) (y := runs) (X := 10485760) (Y := 1000) (by omega) (by omega) (by omega) (by omega)
   rw [w64 (x := b.copy * copies) (by omega) (by omega), w64 (by omega) (by omega)]
   exact k
 · rw [if_neg] at k
   · exact k
   · rintro ⟨c1, c2, c3⟩
     rw [decide_eq_true c1, c2, c3] at h1
     cases h1
theorem makes_S (hb : b.Rg) (k : Q (.t [.a [.i (zkk b runs).1.1, .i (zkk b runs).1.2], .i (zkk b runs).2]) []) : PRun Tryz.prog 203 [] [aB b, .i runs] Q := by
 refine S203 (znv (L := [(runs, 1, 1000)]) hb (by simp) ?_)
 rw [zb7]
 simp only [ze0, z1g, z18, z19, zqj]
 unfold zkk at k
 refine zhp (cB (fun h1 => ?_) fun h1 => ?_)
 · simp only [zyy, decide_eq_true_eq] at h1
   rw [if_pos h1] at k
   obtain ⟨c1, c2⟩ := h1
   have o1 := (blueE_ok.1 c1).per
   rw [inJ_iff] at c2
   have a1 := zec (x := b.per) (y := runs) (X := 1048576) (Y := 1000) (by omega) (by omega) (by omega) (by omega)
   rw [w64 (by omega) (by omega)]
   exact k
 · rw [if_neg] at k
   · exact k
   · rintro ⟨c1, c2⟩
     rw [decide_eq_true c1, c2] at h1
     cases h1
end
def feeY (rate time : Int) : Int × Int := if inJ rate 0 10000 = true ∧ inJ time 0 1099511627776 = true then (upI (time * rate) 10000, 0) else (0, 1)
theorem feeY_bd {rate time : Int} (h1 : 0 ≤ rate ∧ rate ≤ 10000) (h2 : 0 ≤ time ∧ time ≤ 1099511627776) : 0 ≤ upI (time * rate) 10000 ∧ upI (time * rate) 10000 ≤ time := by
 have a1 := zec (x := time) (y := rate) (X := time) (Y := 10000) h2.1 (zzk _) h1.1 h1.2
 unfold upI
 omega
theorem feeBay_S {rate time : Int} (k : Q (vII (feeY rate time)) []) : PRun Tryz.prog 188 [] [.i rate, .i time] Q := by
 unfold feeY at k
 refine S188 (zmn (fun h => ?_) fun h => cIf (fun h2 => ?_) fun h2 => cIf (fun h3 => ?_) fun h3 => ?_)
 · rw [if_neg (by rw [h]; simp)] at k; exact k
 · rw [if_neg (by rintro ⟨-, hh⟩; have := inJ_iff.1 hh; omega)] at k; exact k
 · rw [if_neg (by rintro ⟨-, hh⟩; have := inJ_iff.1 hh; omega)] at k; exact k
 · rw [if_pos ⟨h, inJ_iff.2 ⟨by omega, by omega⟩⟩] at k
   have h := inJ_iff.1 h
   have hf := zec (x := time) (y := rate) (X := 1099511627776) (Y := 10000) (by omega) (by omega) h.1 h.2
   refine zk9 (by omega) (by omega) (by omega) (by omega) ?_
   rw [zb1]
   exact k
end
section
open Go.ChangeShapes Go.WideShapes Go.ChangeAt Go.RowKit
theorem Tryz.own : ownKnob Tryz.prog.godebug = none := by kernel_rfl
theorem Tryz.laidOut : laidOutB Tryz.prog = true := by kernel_rfl
theorem belowOf {W W' : World} (k : Keep W.heap W'.heap) (s : Same W W') : RowKit.Below W.heap.size W W' :=
 ⟨s.os, s.tape, s.output, k.size, fun b hb => k.blk b hb (by simp)⟩
theorem rp_slice {a : Option Addr} {n c : Nat} {u : U} (h : RdL D (Value.slice a n c).cells.toList [u]) : Rp D [] (.slice a n c) (.u u) := by
 have h : RdL D [.slice a n c] [u] := h
 cases h with | cons a _ => exact .u a
theorem zv7 {v : Value} {x : U} (hv : ∀ cs, v ≠ .agg cs) (h : RdL D v.cells.toList [x]) : Rd D v x := by
 have e : v.cells.toList = [v] := by cases v <;> first | rfl | exact absurd rfl (hv _)
 rw [e] at h
 cases h with | cons a _ => exact a
theorem rd_int {w : World} {r : Reach} {b t : Nat} {v : Value} {k : IntKind} {x : U} (hv : Value.okWide P w r b t v) (hu : P.underlying t = some (.int k)) (h : RdL D v.cells.toList [x]) : Rd D v x := by
 refine zv7 (fun cs e => ?_) h
 subst e
 unfold Value.okWide at hv
 rw [hu] at hv
 simp only [Cell.okWide, hu, Cell.ok] at hv
theorem SAt.all (h : zaf) : SAt (zo0 h) [] [] [] [] h := ⟨rfl, rfl, fun i L ab ch h => by simp at h, by simpa using St.all h⟩
end
section
set_option maxRecDepth 1000000
def p0 : Tb := [(oK 0, 0), (oK 1, 60), (oK 2, 500), (oK 3, 2)]
def b0 : Tb := [(⟨1, 0, 1, 1⟩, 60), (⟨1, 0, 1, 2⟩, 40), (⟨1, 0, 1, 3⟩, 20), (⟨2, 0, 1, 1⟩, 60), (⟨2, 0, 1, 2⟩, 40), (⟨2, 0, 1, 3⟩, 20)]
def purA : List V := [.l 2 [[.n 0, .n 0], [.n 1, .n 60], [.n 2, .n 500], [.n 3, .n 2]]]
def binA : List V := [.l 5 [[.n 1, .n 0, .n 1, .n 1, .n 60], [.n 1, .n 0, .n 1, .n 2, .n 40], [.n 1, .n 0, .n 1, .n 3, .n 20], [.n 2, .n 0, .n 1, .n 1, .n 60], [.n 2, .n 0, .n 1, .n 2, .n 40], [.n 2, .n 0, .n 1, .n 3, .n 20]]]
section
variable {P : Program} {D D' : Fz} {ρ ρ' : List Loc} {m m' : Mem} {chs C : List zac} {h h' : zaf} {ro hr : List Nat}
def spClo (G : Nat) (Ts : List TypeId) (A : List V) (R : V) (T : Mem) (hA : zag A = []) (hren : zd0 (fun b => zjs [] b 0) A = A) (hrun : PRun P G [] A fun x m => x = R ∧ m = T) : SP P where
 f ro _ g args m K := cond (zyw g G) (match frzL ro m (ztn P Ts args) with
   | some (as', m1) => some (as' = A ∧ K (zci (fK [] m1.length) R) (backM m1 [] T))
   | none => some False) none
 ok := by
  intro ro hr X call hX hcall g args m KS p hs hp D ρ chs C h vs xx M ha
  cases hg : zyw g G with
  | false => rw [hg] at hs; cases hs
  | true =>
    rw [hg] at hs
    have := zy1 hg
    subst this
    simp only [cond_true] at hs
    split at hs
    · rename_i as' m1 hf
      cases hs
      obtain ⟨rfl, hK⟩ := hp
      have ha := zlr (P := P) (Ts := Ts) ha
      obtain ⟨D1, c1, n1, M1, ra⟩ := zol hf M ha
      refine (zqa (P := P) (ro := ro) (hr := hr) (X := X) (KS := KS) ⟨[], R, T, by simp, fun b hb => by simp at hb, fun b hb => by simp at hb, fun b hb => by rw [hA] at hb; simp at hb, by rw [hren]; exact hrun, hK⟩ M1 ra).mono ?_
      rintro v h' ⟨D2, ρ2, m2, c2, x, n2, M2, hv, hq⟩
      exact ⟨D2, ρ2, m2, c2, x, n1.trans n2, M2, hv, hq⟩
    · cases hs; exact hp.elim
theorem PRun.packN {T T2 : Mem} (hh : PRun P g [] args fun x m' => x = .t [.r 0 0, .i 0] ∧ m' = T) (hN : Nrm T T2) (hS : S T2) : PRun P g [] args fun x m' => x = .t [.r 0 0, .i 0] ∧ m' = [.o (Ob.of S)] := by
 intro D ρ chs C hp vs M F
 have hρ : ρ = [] := z0p M.len
 subst hρ
 refine (hh D [] chs C hp vs M F).mono ?_
 rintro v h2 ⟨D2, s, cs, x, m', le, M2, hv, rfl, rfl⟩
 cases hv with
 | t hv =>
   cases hv with
   | cons h1 h3 =>
     obtain ⟨L, hL, rfl⟩ := h1.r_inv
     obtain ⟨ρ2, cs2, l1, l2, l3, pm, ent⟩ := hN D2 s cs (by simpa using M2.len) M2.lch (by simpa using M2.ent)
     refine ⟨D2, [L], [cs2.flatten], _, _, le, ⟨rfl, rfl, ?_, M2.st.perm (by simpa using pm.append_right _)⟩, .t (.cons (.r rfl) (zep h3 rfl)), rfl, rfl⟩
     rintro i K ab c q1 q2 q3
     cases i with
     | zero =>
       simp at q1 q2 q3
       subst q1 q2 q3
       exact .o ⟨T2, ρ2, cs2, hS, l1, l2, ⟨L, l3 L (by simpa using hL), rfl⟩, rfl, ent⟩
     | succ i => simp at q2
end
theorem que_nrm : Nrm [.c [.nl 3, .m 1, .i 256, .i 1], .p .n 1 false []] (qM [] [] 256 1) := by
 intro D ρ chs h1 h2 he
 match ρ, chs, h1, h2 with
 | [L0, L1], [c0, c1], _, _ =>
   have e0 := he 0 L0 _ c0 rfl rfl rfl
   have e1 := he 1 L1 _ c1 rfl rfl rfl
   refine ⟨[L0, ⟨0, none, 0, 0, none⟩, L1], [c0, [], c1], rfl, rfl, fun L h => h, by simp, fun i L ab c q1 q2 q3 => ?_⟩
   match i, q1, q2, q3 with
   | 0, q1, q2, q3 =>
     cases q1; cases q2; cases q3
     cases e0 with
     | c hc =>
       cases hc with
       | cons a1 _ hc =>
         cases hc with
         | cons a2 _ hc =>
           cases a1
           cases a2 with
           | m hm =>
             cases hm
             refine .c (.cons (.w (b := 1) (L := ⟨0, none, 0, 0, none⟩) rfl) (fun _ _ _ h => nomatch h) (.cons (.m (b := 2) rfl) (fun _ _ _ h => nomatch h) ?_))
             cases hc with
             | cons a3 _ hc =>
               cases hc with
               | cons a4 _ hc =>
                 cases hc
                 cases a3; cases a4
                 rename_i x3 x4
                 exact .cons (.u x3) (fun _ _ _ h => nomatch h) (.cons (.u x4) (fun _ _ _ h => nomatch h) .nil)
   | 1, q1, q2, q3 =>
     cases q1; cases q2; cases q3
     exact .w (.nil none) rfl
   | 2, q1, q2, q3 =>
     cases q1; cases q2; cases q3
     cases e1 with
     | p a b c => exact .p a b c
   | i + 3, q1, q2, q3 => simp at q2
theorem srt_of {l : Tb} (h : (l.map fun r => (r.1.a, r.1.b, r.1.c, r.1.d)).Pairwise (fun x y => x.1 < y.1 ∨ (x.1 = y.1 ∧ (x.2.1 < y.2.1 ∨ (x.2.1 = y.2.1 ∧ (x.2.2.1 < y.2.2.1 ∨ (x.2.2.1 = y.2.2.1 ∧ x.2.2.2 < y.2.2.2))))))) : Srt l := by
 rw [z17] at h
 exact h
theorem p0_inv : PInv p0 562 where
 srt := srt_of (by decide)
 key := by decide
 sum := by decide
 top := by decide
theorem b0_inv : BInv b0 where
 srt := srt_of (by decide)
 key := by decide
 top d := by
  unfold tyQ b0
  simp only [zd3]
  repeat' split
  all_goals omega
theorem pur1_S : PRun Tryz.prog 24 [] purA fun x m => x = .t [.r 0 0, .i 0] ∧ m = [pC p0 562] :=
 purl_S (l := p0) (by decide) p0_inv ⟨rfl, rfl⟩
theorem bin1_S : PRun Tryz.prog 25 [] binA fun x m => x = .t [.r 0 0, .i 0] ∧ m = [bK b0] :=
 binl_S (l := b0) (by decide) b0_inv ⟨rfl, rfl⟩
theorem que1_S : PRun Tryz.prog 26 [] [.i 256] fun x m => x = .t [.r 0 0, .i 0] ∧ m = [qO [] 256 1] :=
 PRun.packN qnew_S que_nrm ⟨⟨by decide, by decide, by decide, by decide, fun x hx => by simp at hx⟩, [], [], ⟨fun i _ x y hx => by simp at hx, ⟨fun i x hx => by simp at hx, fun id r h => (by cases h), by simp⟩, by simp [Ids]⟩, .refl _, rfl⟩
theorem cloE_S : PRun Tryz.prog 165 [] [.l 1 []] fun x m => x = .w 0 ∧ m = [.w iT 1 []] := zey (l := []) (by decide) ⟨rfl, rfl⟩
end
section
set_option maxRecDepth 100000
theorem mixTn6 : Tryz.prog.follows .mixedOrders = true := by kernel_rfl
theorem S70 {b c a : Int} (hh : (PRun Tryz.prog 163 [] [.l 4 [[.n 1, .n b, .n 1, .n 1000], [.n c, .n 1, .n a, .n 0]]] (fun d e => d = .t [.r 0 0, .i 0] ∧ e = [.c [.w 1, .m 2], .cw 270 3 4 [.i b, .l 1 [], .l 1 [], .i 1, .l 1 [], .l 1 [], .i 1, .l 1 [], .l 1 [], .i a, .l 1 [], .l 1 []], .p .n 1 false []])) ∧ (0 ≤ (0 : Int) ∧ (0 : Int) < (4 : Int) ∧ (bif 0 == b then (bif decide (0 > b) then Q (.t [.u (.p none), .i 1]) [] else ([.l 1 []] : List V) = [.l 1 []] ∧ (zan [] [] ∧ (([.l 1 []] : List V) = [.l 1 []] ∧ (([.l 1 []] : List V) = [.l 1 []] ∧ (0 ≤ (1 : Int) ∧ (1 : Int) < (4 : Int) ∧ (([.l 1 []] : List V) = [.l 1 []] ∧ (zan [] [] ∧ (([.l 1 []] : List V) = [.l 1 []] ∧ (([.l 1 []] : List V) = [.l 1 []] ∧ (0 ≤ (2 : Int) ∧ (2 : Int) < (4 : Int) ∧ (([.l 1 []] : List V) = [.l 1 []] ∧ (zan [] [] ∧ (([.l 1 []] : List V) = [.l 1 []] ∧ (([.l 1 []] : List V) = [.l 1 []] ∧ (0 ≤ (3 : Int) ∧ (3 : Int) < (4 : Int) ∧ (bif 0 == a then (bif decide (0 > a) then Q (.t [.u (.p none), .i 1]) [] else ([.l 1 []] : List V) = [.l 1 []] ∧ (zan [] [] ∧ (([.l 1 []] : List V) = [.l 1 []] ∧ (([.l 1 []] : List V) = [.l 1 []] ∧ (Q (.t [.r 0 0, .i 0]) (q32 b 2 3 1 4 5 1 6 7 a 8 9 [] [] [] [] [] [] [] [] [])))))) else (bif decide (0 > a) then Q (.t [.u (.p none), .i 1]) [] else ([.l 1 []] : List V) = [.l 1 []] ∧ (zan [] [] ∧ (([.l 1 []] : List V) = [.l 1 []] ∧ (([.l 1 []] : List V) = [.l 1 []] ∧ (Q (.t [.r 0 0, .i 0]) (q32 b 2 3 1 4 5 1 6 7 a 8 9 [] [] [] [] [] [] [] [] [])))))))))))))))))))))) else (bif decide (0 > b) then Q (.t [.u (.p none), .i 1]) [] else ([.l 1 []] : List V) = [.l 1 []] ∧ (zan [] [] ∧ (([.l 1 []] : List V) = [.l 1 []] ∧ (([.l 1 []] : List V) = [.l 1 []] ∧ (0 ≤ (1 : Int) ∧ (1 : Int) < (4 : Int) ∧ (([.l 1 []] : List V) = [.l 1 []] ∧ (zan [] [] ∧ (([.l 1 []] : List V) = [.l 1 []] ∧ (([.l 1 []] : List V) = [.l 1 []] ∧ (0 ≤ (2 : Int) ∧ (2 : Int) < (4 : Int) ∧ (([.l 1 []] : List V) = [.l 1 []] ∧ (zan [] [] ∧ (([.l 1 []] : List V) = [.l 1 []] ∧ (([.l 1 []] : List V) = [.l 1 []] ∧ (0 ≤ (3 : Int) ∧ (3 : Int) < (4 : Int) ∧ (bif 0 == a then (bif decide (0 > a) then Q (.t [.u (.p none), .i 1]) [] else ([.l 1 []] : List V) = [.l 1 []] ∧ (zan [] [] ∧ (([.l 1 []] : List V) = [.l 1 []] ∧ (([.l 1 []] : List V) = [.l 1 []] ∧ (Q (.t [.r 0 0, .i 0]) (q32 b 2 3 1 4 5 1 6 7 a 8 9 [] [] [] [] [] [] [] [] [])))))) else (bif decide (0 > a) then Q (.t [.u (.p none), .i 1]) [] else ([.l 1 []] : List V) = [.l 1 []] ∧ (zan [] [] ∧ (([.l 1 []] : List V) = [.l 1 []] ∧ (([.l 1 []] : List V) = [.l 1 []] ∧ (Q (.t [.r 0 0, .i 0]) (q32 b 2 3 1 4 5 1 6 7 a 8 9 [] [] [] [] [] [] [] [] []))))))))))))))))))))))))) : PRun Tryz.prog 70 [] [.l 4 [[.n 1, .n b, .n 1, .n 1000], [.n c, .n 1, .n a, .n 0]], .l 2 [[.l 1 [], .l 1 []], [.l 1 [], .l 1 []], [.l 1 [], .l 1 []], [.l 1 [], .l 1 []]]] Q :=
 zad mixTn6 Tryz.func70 (by kernel_rfl) (H := ⟨[], [], [164], [], [], true, 64, KN.no, false, ((spClo 165 [134] [.l 1 []] (.w 0) [.w 3 1 []] rfl rfl cloE_S).or (zvf 163 (.t [.r 0 0, .i 0]) [.c [.w 1, .m 2], .cw 270 3 4 [.i b, .l 1 [], .l 1 [], .i 1, .l 1 [], .l 1 [], .i 1, .l 1 [], .l 1 [], .i a, .l 1 [], .l 1 []], .p .n 1 false []]))⟩) (n := 3) (by kernel_rfl) hh
end
section
set_option maxRecDepth 1000000
section
variable {D : Fz} {ρ : List Loc}
theorem ent_cw4 {L : Loc} {ch : zac} {E : TypeId} {a1 a2 a3 b1 b2 b3 c1 c2 c3 d1 d2 d3 : U} (h : Ent D ρ L (.w E 3 [[a1, a2, a3], [b1, b2, b3], [c1, c2, c3], [d1, d2, d3]]) ch) :
 Ent D ρ L (.cw E 3 4 [.u a1, .u a2, .u a3, .u b1, .u b2, .u b3, .u c1, .u c2, .u c3, .u d1, .u d2, .u d3]) ch := by
 cases h with
 | w own hn =>
   obtain ⟨Lb, La, Ln, Lc, Lo⟩ := L
   simp only at own hn
   subst hn
   cases own with
   | row b Lc arr rows v h1 h2 h3 h4 h5 =>
     obtain ⟨l⟩ := arr
     have hl : l.length = Lc * 3 := by simpa using h1
     have h2' : 4 ≤ Lc := by simpa using h2.1
     have g : ∀ (i j : Nat) (r : List U) (u : U), [[a1, a2, a3], [b1, b2, b3], [c1, c2, c3], [d1, d2, d3]][i]? = some r → r[j]? = some u → l[i * 3 + j]? = some (v i j) := fun i j r u x y => by simpa using h4 i j r u x y
     match l, hl, g with
     | [], hl, _ => simp at hl; omega
     | [_], hl, _ => simp at hl; omega
     | [_, _], hl, _ => simp at hl; omega
     | [_, _, _], hl, _ => simp at hl; omega
     | [_, _, _, _], hl, _ => simp at hl; omega
     | [_, _, _, _, _], hl, _ => simp at hl; omega
     | [_, _, _, _, _, _], hl, _ => simp at hl; omega
     | [_, _, _, _, _, _, _], hl, _ => simp at hl; omega
     | [_, _, _, _, _, _, _, _], hl, _ => simp at hl; omega
     | [_, _, _, _, _, _, _, _, _], hl, _ => simp at hl; omega
     | [_, _, _, _, _, _, _, _, _, _], hl, _ => simp at hl; omega
     | [_, _, _, _, _, _, _, _, _, _, _], hl, _ => simp at hl; omega
     | v0 :: v1 :: v2 :: v3 :: v4 :: v5 :: v6 :: v7 :: v8 :: v9 :: v10 :: v11 :: ps, hl, g =>
       have e0 : v0 = v 0 0 := by simpa using g 0 0 _ _ rfl rfl
       have e1 : v1 = v 0 1 := by simpa using g 0 1 _ _ rfl rfl
       have e2 : v2 = v 0 2 := by simpa using g 0 2 _ _ rfl rfl
       have e3 : v3 = v 1 0 := by simpa using g 1 0 _ _ rfl rfl
       have e4 : v4 = v 1 1 := by simpa using g 1 1 _ _ rfl rfl
       have e5 : v5 = v 1 2 := by simpa using g 1 2 _ _ rfl rfl
       have e6 : v6 = v 2 0 := by simpa using g 2 0 _ _ rfl rfl
       have e7 : v7 = v 2 1 := by simpa using g 2 1 _ _ rfl rfl
       have e8 : v8 = v 2 2 := by simpa using g 2 2 _ _ rfl rfl
       have e9 : v9 = v 3 0 := by simpa using g 3 0 _ _ rfl rfl
       have e10 : v10 = v 3 1 := by simpa using g 3 1 _ _ rfl rfl
       have e11 : v11 = v 3 2 := by simpa using g 3 2 _ _ rfl rfl
       have k : ∀ {v : Value} {u : U} {vs : List Value} {l : List V}, Rd D v u → RpC D ρ vs l → RpC D ρ (v :: vs) (V.u u :: l) := fun a b => .cons (.u a) (fun _ _ _ e => nomatch e) b
       have hc : RpC D ρ [v0, v1, v2, v3, v4, v5, v6, v7, v8, v9, v10, v11] [.u a1, .u a2, .u a3, .u b1, .u b2, .u b3, .u c1, .u c2, .u c3, .u d1, .u d2, .u d3] := by
        rw [e0, e1, e2, e3, e4, e5, e6, e7, e8, e9, e10, e11]
        exact k (h5 0 0 _ _ rfl rfl) (k (h5 0 1 _ _ rfl rfl) (k (h5 0 2 _ _ rfl rfl) (k (h5 1 0 _ _ rfl rfl) (k (h5 1 1 _ _ rfl rfl) (k (h5 1 2 _ _ rfl rfl) (k (h5 2 0 _ _ rfl rfl) (k (h5 2 1 _ _ rfl rfl) (k (h5 2 2 _ _ rfl rfl) (k (h5 3 0 _ _ rfl rfl) (k (h5 3 1 _ _ rfl rfl) (k (h5 3 2 _ _ rfl rfl) .nil)))))))))))
       exact .cw (b := b) (vs := [v0, v1, v2, v3, v4, v5, v6, v7, v8, v9, v10, v11]) (ps := ps) rfl rfl hc rfl (by simpa using hl) ⟨h2', h2.2⟩
end
theorem PRun.cw4 {E : TypeId} {a b d : AB} {a1 a2 a3 b1 b2 b3 c1 c2 c3 d1 d2 d3 : U} {x0 : V} (hh : PRun P g [] args fun x m => x = x0 ∧ m = [a, .w E 3 [[a1, a2, a3], [b1, b2, b3], [c1, c2, c3], [d1, d2, d3]], d]) :
 PRun P g [] args fun x m => x = x0 ∧ m = [a, .cw E 3 4 [.u a1, .u a2, .u a3, .u b1, .u b2, .u b3, .u c1, .u c2, .u c3, .u d1, .u d2, .u d3], d] := by
 intro D ρ chs C h vs M F
 refine (hh D ρ chs C h vs M F).mono ?_
 rintro v h' ⟨D', s, chs', x, m', le, M', hv, rfl, rfl⟩
 refine ⟨D', s, chs', _, [a, .cw E 3 4 [.u a1, .u a2, .u a3, .u b1, .u b2, .u b3, .u c1, .u c2, .u c3, .u d1, .u d2, .u d3], d], le, ⟨M'.len, M'.lch, fun i L ab ch q1 q2 q3 => ?_, M'.st⟩, hv, rfl, rfl⟩
 match i, q2 with
 | 0, q2 => cases q2; exact M'.ent 0 L _ ch q1 rfl q3
 | 1, q2 => cases q2; exact ent_cw4 (M'.ent 1 L _ ch q1 rfl q3)
 | 2, q2 => cases q2; exact M'.ent 2 L _ ch q1 rfl q3
 | i + 3, q2 => simp at q2
theorem PRun.packS {T : Mem} (ix : List Nat) (hh : PRun P g [] args fun x m' => x = .t [.r 0 0, .i 0] ∧ m' = T) (hnd : (0 :: ix).Nodup) (hbl : zff T.length (0 :: ix) = true) (hcl : zdy (0 :: ix) ((0 :: ix).flatMap fun b => za9 (mg T b)) = true) (hS : S (zk6 T (0 :: ix))) : PRun P g [] args fun x m' => x = .t [.r 0 0, .i 0] ∧ m' = [.o (Ob.of S)] := by
 intro D ρ chs C hp vs M F
 have hρ : ρ = [] := z0p M.len
 subst hρ
 refine (hh D [] chs C hp vs M F).mono ?_
 rintro v h2 ⟨D2, s, cs, x, m', le, M2, hv, rfl, rfl⟩
 cases hv with
 | t hv =>
   cases hv with
   | cons h1 h3 =>
     obtain ⟨L, hL, rfl⟩ := h1.r_inv
     obtain ⟨c', cs', -, -, Ms⟩ := M2.sub hnd (zbx hbl) fun b hb c hc => za0 hcl c (z1m.2 ⟨b, hb, hc⟩)
     have S2 : St D2 (cs' ++ C) h2 := by
      have := Ms.st
      exact (this.perm (C' := c' ++ (cs' ++ C)) (by simp only [zzs]; exact zz2 _ _ _)).drops
     have hL2 : s[0]? = some L := by simpa using hL
     refine ⟨D2, [L], [cs'.flatten], _, [.o (Ob.of S)], le, ⟨rfl, rfl, ?_, S2.perm (by simp)⟩, .t (.cons (.r rfl) (zep h3 rfl)), rfl, rfl⟩
     rintro i K ab c q1 q2 q3
     cases i with
     | zero =>
       simp at q1 q2 q3
       subst q1 q2 q3
       exact .o ⟨_, _, cs', hS, Ms.len, Ms.lch, ⟨L, by simp only [zzj, z2u, zz7]; rw [hL2]; rfl, rfl⟩, rfl, Ms.ent⟩
     | succ i => simp at q2
def newL (a b c d : Int) : List Sd := [⟨a, [], []⟩, ⟨b, [], []⟩, ⟨c, [], []⟩, ⟨d, [], []⟩]
theorem bnew_S {a p d : Int} (ha : 0 ≤ a ∧ a ≤ 8) (hd : 0 ≤ d ∧ d ≤ 8) : PRun Tryz.prog 163 [] [.l 4 [[.n 1, .n a, .n 1, .n 1000], [.n p, .n 1, .n d, .n 0]]] fun x m => x = .t [.r 0 0, .i 0] ∧ m = [.c [.w 1, .m 2], .cw 270 3 4 [.i a, .l 1 [], .l 1 [], .i 1, .l 1 [], .l 1 [], .i 1, .l 1 [], .l 1 [], .i d, .l 1 [], .l 1 []], .p .n 1 false []] := by
 refine PRun.cw4 (b := .x) (S163 ?_)
 exact cIf (fun h => by omega) fun _ => cIf (fun h => by omega) fun _ => ⟨by unfold zan; simp, by unfold zan; simp, by unfold zan; simp, cIf (fun h => by omega) fun _ => cIf (fun h => by omega) fun _ => ⟨by unfold zan; simp, rfl, rfl⟩⟩
theorem BIv_new {a b c d : Int} (ha : 0 ≤ a ∧ a ≤ 8) (hb : 0 ≤ b ∧ b ≤ 8) (hc : 0 ≤ c ∧ c ≤ 8) (hd : 0 ≤ d ∧ d ≤ 8) : BIv [] (newL a b c d) where
 pos k s j h1 h2 := by
  have := zy4 h1
  simp only [newL, zy3, z0w, or_false] at this
  rcases this with rfl | rfl | rfl | rfl <;> simp at h2
 only j r h := by cases h
 nd := .nil
 srt s h := by
  simp only [newL, zy3, z0w, or_false] at h
  rcases h with rfl | rfl | rfl | rfl <;> exact .nil
 len s h := by
  simp only [newL, zy3, z0w, or_false] at h
  rcases h with rfl | rfl | rfl | rfl <;> simp <;> omega
theorem bload_S {a p d : Int} (ha : 0 ≤ a ∧ a ≤ 8) (hd : 0 ≤ d ∧ d ≤ 8) : PRun Tryz.prog 70 [] [.l 4 [[.n 1, .n a, .n 1, .n 1000], [.n p, .n 1, .n d, .n 0]], .l 2 [[.l 1 [], .l 1 []], [.l 1 [], .l 1 []], [.l 1 [], .l 1 []], [.l 1 [], .l 1 []]]] fun x m => x = .t [.r 0 0, .i 0] ∧ m = [.o (Ob.of (zqw (newL a 1 1 d)))] := by
 refine PRun.packS (T := [.c [.w 1, .m 10], .cw 270 3 4 [.i a, .w 2, .w 3, .i 1, .w 4, .w 5, .i 1, .w 6, .w 7, .i d, .w 8, .w 9], .w iT 1 [], .w iT 1 [], .w iT 1 [], .w iT 1 [], .w iT 1 [], .w iT 1 [], .w iT 1 [], .w iT 1 [], .p .n 1 false []]) [1, 10, 2, 3, 4, 5, 6, 7, 8, 9] (S70 ⟨bnew_S ha hd, ?_⟩) (by decide) rfl rfl ⟨[], ⟨a, [], []⟩, ⟨1, [], []⟩, ⟨1, [], []⟩, ⟨d, [], []⟩, rfl, BIv_new ha (by decide) (by decide) hd, rfl⟩
 have one : ∀ {n : Int} {A B : Prop}, 0 ≤ n → B → (bif 0 == n then (bif decide (0 > n) then A else B) else (bif decide (0 > n) then A else B) : Prop) := fun {n A B} h k => cEq (fun _ => cIf (fun h2 => by omega) fun _ => k) fun _ => cIf (fun h2 => by omega) fun _ => k
 have ap : zan [] [] := by unfold zan; simp
 exact ⟨by decide, by decide, one ha.1 ⟨rfl, ap, rfl, rfl, by decide, by decide, rfl, ap, rfl, rfl, by decide, by decide, rfl, ap, rfl, rfl, by decide, by decide, one hd.1 ⟨rfl, ap, rfl, rfl, rfl, rfl⟩⟩⟩
end
def sidesU : List (List U) → List Sd
 | [] => []
 | [_, .i _ a, .i _ b, _] :: t => ⟨a, [], []⟩ :: ⟨b, [], []⟩ :: sidesU t
 | _ :: _ => []
def bayC (cs : List V) : Ob :=
 match cs with
 | _ :: _ :: _ :: .u (.l _ rows) :: _ => Ob.of (zqw (sidesU rows))
 | _ => Ob.of fun _ => False
def wnR (args : List V) (m : Mem) : V × Mem :=
 match args with
 | .a cs :: _ => (.t [.r 4 0, .i 0], m ++ [.c (cs ++ [.r 0 0, .r 1 0, .r 2 0, .r 3 0, .r 5 0, .r 6 0, .nl 16]), .c [.nl 13, .i 0], .o (bayC cs)])
 | _ => (.t [], [])
section
set_option maxRecDepth 100000
theorem mixTn8 : Tryz.prog.follows .mixedOrders = true := by kernel_rfl
theorem S7 {w : Int} (hh : PRun Tryz.prog 12 [] [.i w] (post [.agg [.i .i64, .l 7, .i .i64, .l 4, .i .i64, .i .i64, .i .i64, .i .i64], .L 2, .L 5, .L 9] [] (fun c d e f g h i j x y s => (([.l 2 x] : List V) = purA ∧ (([.l 5 y] : List V) = binA ∧ (([.i 256] : List V) = [.i 256] ∧ ((PRun Tryz.prog 27 (q33 (zzf eT p0) 562 (zzf eT b0) (zfl b0) (Ob.of (qS [] 256 1))) [(q24 c d e f g h i j), .r 0 0, .r 1 0, .r 2 0, .r 3 0] (fun α β => α = .t [.r 4 0, .i 0] ∧ β = (q41 (zzf eT p0) 562 (zzf eT b0) (zfl b0) (Ob.of (qS [] 256 1)) c d e f g h i j 0 (bayC [.i c, .l 7 d, .i e, .l 4 f, .i g, .i h, .i i, .i j])))) ∧ (∃ (r : Int → Option (List U) → Option (List U) → Option (List U) → Option (List U) → Option (List U) → List (List U) → Int → Prop) (t : Int → Option (List U) → Option (List U) → Option (List U) → Option (List U) → Option (List U) → List (List U) → Int → Nat), r 0 none none none none none [] 0 ∧ (∀ b : Int, ∀ k : Option (List U), ∀ l : Option (List U), ∀ m : Option (List U), ∀ n : Option (List U), ∀ o : Option (List U), ∀ p : List (List U), ∀ q : Int, r b k l m n o p q → (bif decide (b < (zyv s : Int)) then elL s b (fun a => dI .i64 (ug a 0) (fun γ => dI .i64 (ug a 1) (fun δ => dI .i64 (ug a 2) (fun ε => dI .i64 (ug a 3) (fun ζ => dI .i64 (ug a 4) (fun η => dI .i64 (ug a 5) (fun θ => dI .i64 (ug a 6) (fun ι => dI .i64 (ug a 7) (fun κ => dI .i64 (ug a 8) (fun μ => PRun Tryz.prog 28 [.c [.l 13 p, .i q]] [.r 0 0, q25 γ δ ε ζ η θ ι κ μ] (post q10 q4 (fun ν ξ u v => (bif ν != zyu .i64 (b + 1) then Q (.t [.a [.u (.p none), .r 0 0, .r 1 0, .r 2 0, .r 3 0], .u (.b false)]) (q33 (zzf eT p0) 562 (zzf eT b0) (zfl b0) (Ob.of (qS [] 256 1))) else (bif ξ != 0 then Q (.t [.a [.u (.p none), .r 0 0, .r 1 0, .r 2 0, .r 3 0], .u (.b false)]) (q33 (zzf eT p0) 562 (zzf eT b0) (zfl b0) (Ob.of (qS [] 256 1))) else r (zyu .i64 (b + 1)) k l m n o u v ∧ t (zyu .i64 (b + 1)) k l m n o u v < t b k l m n o p q) : Prop))))))))))))) else Q (.t [(q26 ), .u (.b true)]) [.c [.i c, .l 7 d, .i e, .l 4 f, .i g, .i h, .i i, .i j, .r 1 0, .r 2 0, .r 3 0, .r 4 0, .r 5 0, .r 6 0, .nl 16], .c [.l 5 (zzf eT p0), .i 562], .c [.l 5 (zzf eT b0), .n .i64 33 (zfl b0)], .o (Ob.of (qS [] 256 1)), .c [.nl 4, .nm], .c [.l 13 p, .i q], .o (bayC [.i c, .l 7 d, .i e, .l 4 f, .i g, .i h, .i i, .i j])])))))) : Prop)))) : PRun Tryz.prog 7 [] [.i w] Q :=
 zad mixTn8 Tryz.func7 (by kernel_rfl) (H := ⟨[((7, 12, 10), ⟨[(17, .I)], [(0, .c [.p, .p, .p, .p, .p]), (8, .c [.l 13, .i .i64])]⟩)], [], [22, 41], [], [], false, 64, KN.no, false, ((((spClo 24 [56] purA (.t [.r 0 0, .i 0]) [pC p0 562] rfl rfl pur1_S).or (spClo 25 [57] binA (.t [.r 0 0, .i 0]) [bK b0] rfl rfl bin1_S)).or (spClo 26 [3] [.i 256] (.t [.r 0 0, .i 0]) [qO [] 256 1] rfl rfl que1_S)).or (spKg 27 wnR))⟩) (n := 4) (by kernel_rfl) hh
theorem S12 {a : Int} (hh : 0 ≤ (1 : Int) ∧ (0 ≤ (2 : Int) ∧ (zan [] [(q19 1 0 1 1 60)] ∧ (zan [(q19 1 0 1 1 60)] [(q19 1 0 1 2 40)] ∧ (zan [(q19 1 0 1 1 60), (q19 1 0 1 2 40)] [(q19 1 0 1 3 20)] ∧ (zan [(q19 1 0 1 1 60), (q19 1 0 1 2 40), (q19 1 0 1 3 20)] [(q19 2 0 1 1 60)] ∧ (zan [(q19 1 0 1 1 60), (q19 1 0 1 2 40), (q19 1 0 1 3 20), (q19 2 0 1 1 60)] [(q19 2 0 1 2 40)] ∧ (zan [(q19 1 0 1 1 60), (q19 1 0 1 2 40), (q19 1 0 1 3 20), (q19 2 0 1 1 60), (q19 2 0 1 2 40)] [(q19 2 0 1 3 20)] ∧ (Q (.t [(q24 4 [[.n 3, .n 2, .n 10, .l 2 [[.n 1, .n 3], [.n 2, .n 1]], .n 2, .n 3, .n 5], [.n 4, .n 1, .n 7, .l 2 [[.n 3, .n 2]], .n 0, .n 0, .n 3]] 2 [[.n 1, .n (zyu .i64 (1 + zyu .i64 (BitVec.toNat (BitVec.ofInt 64 a &&& (BitVec.ofInt 64 1)) : Int))), .n 1, .n 1000], [.n (zyu .i64 (1 + zyu .i64 (BitVec.toNat (BitVec.ofInt 64 (Int.fdiv a (2 ^ (1))) &&& (BitVec.ofInt 64 1)) : Int))), .n 1, .n (zyu .i64 (BitVec.toNat (BitVec.ofInt 64 (Int.fdiv a (2 ^ (2))) &&& (BitVec.ofInt 64 1)) : Int)), .n 0]] 3 200 1 500), .l 2 [[.n 0, .n 0], [.n 1, .n 60], [.n 2, .n 500], [.n 3, .n 2]], .l 5 [(q19 1 0 1 1 60), (q19 1 0 1 2 40), (q19 1 0 1 3 20), (q19 2 0 1 1 60), (q19 2 0 1 2 40), (q19 2 0 1 3 20)], .l 9 [(q29 0 1 0 1 1 0 0 (-1) 0), (q29 0 2 0 1 2 0 0 (-1) 0), (q29 0 1 0 1 2 3 0 4 0), (q29 0 2 0 1 1 0 8 (-1) 0), (q29 0 1 0 2 1 0 0 (-1) 0)]]) []))))))))) : PRun Tryz.prog 12 [] [.i a] Q :=
 zad mixTn8 Tryz.func12 (by kernel_rfl) (H := ⟨[], [], [], [], [], false, 64, KN.no, false, SP.no⟩) (n := 2) (by kernel_rfl) hh
end
section
set_option maxRecDepth 100000
open Go.Sort Go.Shelf
abbrev qB (L : List Tm) : Mem := [.c [.w 1], .w 103 3 (L.map rT)]
abbrev qF : V := .f 223 [] [.r 0 0]
theorem aps_S (hl : L.length ≤ 100000) : PRun Tryz.prog 307 (qB L) [.nl 0, qF] fun x m => x = .w 2 ∧ m = [.c [.w 1], .w 103 3 (L.map rT), .w 103 3 (L.map rT)] := by
 have hlen : ((L.map rT).length : Int) = (L.length : Int) := by rw [zy2]
 refine S307 ?_
 rw [hlen]
 refine ⟨fun x o => ∃ n : Nat, x = (n : Int) ∧ n ≤ L.length ∧ o = (L.take n).map rT, fun x _ => (L.length - x).toNat, ⟨0, rfl, zzv _, rfl⟩, ?_⟩
 rintro _ _ ⟨n, rfl, hn, rfl⟩
 refine cIf (fun hlt => ?_) fun hge => ?_
 · obtain ⟨t, ht⟩ : ∃ t, L[n]? = some t := ⟨_, zy0 (by omega)⟩
   refine ⟨by omega, hlt, ?_⟩
   rw [zah (r := rT t) (by omega) (by rw [zzm, zy5, ht]; rfl)]
   simp only [rT, ug0, ugs, zbs]
   have e : (L.take n).map rT ++ [[.n t.1, .n t.2.1, .n t.2.2]] = (L.take (n + 1)).map rT := by rw [z05, ht, zzr]; rfl
   rw [w64n (by omega)]
   refine ⟨by unfold zan; simp; omega, ⟨n + 1, rfl, by omega, e⟩, by first | omega | (dsimp only; omega)⟩
 · have : n = L.length := by omega
   subst this
   rw [z0r]
   exact ⟨rfl, rfl⟩
def sgQ (x y : Int) : Int := if x < y then -1 else if y < x then 1 else 0
def cmpQ (a b : Tm) : Int := if sgQ a.1 b.1 ≠ 0 then sgQ a.1 b.1 else sgQ a.2.1 b.2.1
theorem cmpQ_S (a b : Tm) : PRun Tryz.prog 119 [] [tV a, tV b] fun v _ => v = .i (cmpQ a b) := by
 refine S119 (zou ?_)
 rw [zaw]
 refine zou ?_
 rw [zaw]
 refine ⟨by omega, by omega, ?_⟩
 unfold cmpQ sgQ
 by_cases h1 : a.1 < b.1
 · rw [if_pos h1]; rfl
 · by_cases h2 : b.1 < a.1
   · rw [if_neg h1, if_pos h2]; rfl
   · rw [if_neg h1, if_neg h2]
     refine ⟨by omega, by omega, ?_⟩
     by_cases h3 : a.2.1 < b.2.1
     · rw [if_pos h3]; rfl
     · by_cases h4 : b.2.1 < a.2.1
       · rw [if_neg h3, if_pos h4]; rfl
       · rw [if_neg h3, if_neg h4]; rfl
theorem timerSWO : SWO (ltOf cmpQ) where
 irrefl x := by unfold ltOf cmpQ sgQ; simp
 trans x y z h1 h2 := by
  unfold ltOf cmpQ sgQ at *
  simp only [decide_eq_true_eq] at *
  split at h1 <;> split at h2 <;> split <;> omega
 ntrans x y z h1 h2 := by
  unfold ltOf cmpQ sgQ at *
  simp only [decide_eq_false_iff_not] at *
  split at h1 <;> split at h2 <;> split <;> omega
instance : Inhabited Tm := ⟨(0, 0, 0)⟩
theorem callSQ : zbh Tryz.prog 222 := ⟨_, Tryz.func222, by kernel_rfl, by kernel_rfl⟩
theorem callCQ : zbh Tryz.prog 119 := ⟨_, Tryz.func119, by kernel_rfl, by kernel_rfl⟩
theorem cmpQ_le {x y : Tm} (h : cmpQ y x < 0 → False) : leT x y := by
 have h : ¬ cmpQ y x < 0 := h
 unfold cmpQ sgQ at h
 unfold leT
 split at h <;> split at h <;> omega
theorem srtf_S (hl : L.length ≤ 100000) (hd : DifT L) : PRun Tryz.prog 117 (qB L) [qF, .f 119 [] []] fun x m => x = .w 2 ∧ m = [.c [.w 1], .w 103 3 (L.map rT), .w 103 3 (ztf (L.map rT))] := by
 refine S117 ⟨S221 ⟨aps_S hl, rfl, rfl⟩, ?_⟩
 have key : PRun Tryz.prog 222 [.w 103 3 (L.map fun x => ([x.1, x.2.1, x.2.2] : List Int).map U.n)] [.w 0, .f 119 [] []] fun x m => x = .t [] ∧ m = [.w 103 3 ((zfj L).map rT)] :=
  sortP (α := Tm) Tryz.sortLT (f := 222) rfl callSQ 3 Tryz.isAgg103 Tryz.sizeOf103 (fun x => [x.1, x.2.1, x.2.2]) (fun _ => rfl) cmpQ timerSWO callCQ (fun x y => cmpQ_S x y) (by omega) fun r hp hs => by
   have e : r = zfj L := zh6 (hp.trans (zap L).symm) (hs.imp fun h => cmpQ_le h) (zb4 L) (DifT.perm hp.symm hd)
   subst e
   exact ⟨rfl, rfl⟩
 refine key.mono ?_
 rintro _ _ ⟨rfl, rfl⟩
 rw [zrf]
 exact ⟨rfl, rfl⟩
theorem qlistG_S {most next : Int} (K : DifT L → Q (.l 3 ((zfj L).map rT)) [qO L most next]) : PRun Tryz.prog 44 [qO L most next] [.r 0 0] Q := by
 refine PRun.pack (args := []) rfl ?_
 rintro M ⟨hL, xs, m, hq, hp, rfl⟩
 have hl := hp.length_eq
 have hd : DifT xs := z17.1 hq.ids
 refine S44 ⟨srtf_S (by omega) hd, ?_⟩
 rw [zrf, zvd hp hd]
 exact ⟨rfl, _, qS L most next, .refl _, ⟨hL, xs, m, hq, hp, rfl⟩, K (DifT.perm hp hd)⟩
theorem qlist_S {most next : Int} (K : ∀ ys : List Tm, ys.Perm L → Q (.l 3 (ys.map rT)) [qO L most next]) : PRun Tryz.prog 44 [qO L most next] [.r 0 0] Q := qlistG_S fun _ => K _ (zap L)
end
section
set_option maxRecDepth 1000000
variable {Q : V → Mem → Prop}
theorem PRun.uncV {m : Mem} (hh : PRun P g m args fun x m' => Q (YtacglpinmpncaaaGreat.unc x) (m'.map uncA)) : PRun P g m args Q := by
 intro D ρ chs C h vs M F
 refine (hh D ρ chs C h vs M F).mono ?_
 rintro v h' ⟨D', s, chs', x, m', le, M', hv, hq⟩
 exact ⟨D', s, chs', YtacglpinmpncaaaGreat.unc x, m'.map uncA, le, M'.unc, unc_S hv, hq⟩
theorem clone_S (hl : r.length ≤ 1000) (K : Q (.l 2 r) []) : PRun Tryz.prog 93 [] [.l 2 r] Q := by
 refine PRun.uncV (S93 ?_)
 have ap : zan [] r := by unfold zan; simp; omega
 cases r with
 | nil => exact ⟨K, ap, K⟩
 | cons a r => exact ⟨ap, K⟩
theorem post_LA {F : List (List U) → Ob → Prop} : post [.L 3] [.A] F (.l 3 r) [.o X] = F r X := rfl
theorem zwi {F : Int → Ob → Prop} : post [.I] [.A] F (.i n) [.o X] = F n X := rfl
theorem zfq {F : Int → Int → Ob → Prop} {n' : Int} : post [.I, .I] [.A] F (.t [.i n, .i n']) [.o X] = F n n' X := rfl
theorem post_IIp {F : Int → Int → List (List U) → Int → Prop} {e' : Int} : post [.I, .I] [.c [.l 5, .i .i64]] F (.t [.i e, .i e']) [.c [.l 5 r, .i n]] = F e e' r n := rfl
theorem zsl : ∀ {T : List Tm}, (T.Pairwise fun a b => a.2.1 ≠ b.2.1) → ∀ {a b : Tm}, a ∈ T → b ∈ T → a.2.1 = b.2.1 → a = b
 | [], _, _, _, ha, _, _ => by simp at ha
 | t :: T, h, a, b, ha, hb, e => by
   have h2 := zz5.1 h
   rcases zy3.1 ha with rfl | ha' <;> rcases zy3.1 hb with rfl | hb'
   · rfl
   · exact absurd e (h2.1 b hb')
   · exact absurd e.symm (h2.1 a ha')
   · exact zsl h2.2 ha' hb' e
def TimF (T : List Tm) (w : Int) (T' : List Tm) : Prop := (∃ t : Tm, (t :: T').Perm T ∧ t.2.2 = w) ∨ ((∀ t ∈ T, t.2.2 ≠ w) ∧ T' = T)
abbrev tp (t : Tm) : Int × Int := (t.1, t.2.2)
theorem zvi {l : List α} {d : α} (h : l[i]? = some d) : ∃ a b, l = a ++ d :: b ∧ a.length = i ∧ ∀ e, l.set i e = a ++ e :: b := by
 obtain ⟨hlt, he⟩ := zyz.1 h
 refine ⟨l.take i, l.drop (i + 1), ?_, by rw [zz1]; omega, fun e => ?_⟩
 · rw [← he]; exact (z0h i l).symm.trans (by rw [← List.getElem_cons_drop hlt])
 · rw [List.set_eq_take_append_cons_drop, if_pos hlt]
theorem zsy {L : List Stk} {t : Int} (h : zfe L t = 0) : L.length ≤ 8 := by
 unfold zfe at h
 split at h
 · rename_i hh; exact hh.2
 · cases h
theorem zft (L : List Mk) (x : Mk) (w i : Int) : ofM (L ++ [x]) w i = match ofM L w i with | some m => some m | none => if x.2.1 = w ∧ x.2.2.1 = i then some x else none := by
 unfold ofM
 rw [List.find?_append]
 cases h : L.find? fun x => x.2.1 == w && x.2.2.1 == i with
 | some m => rfl
 | none =>
   simp only [Option.none_or, List.find?_cons, List.find?_nil]
   by_cases hh : x.2.1 = w ∧ x.2.2.1 = i
   · rw [if_pos hh, hh.1, hh.2]; simp
   · rw [if_neg hh]
     have : (x.2.1 == w && x.2.2.1 == i) = false := by
      rw [z29]
      intro h2
      simp only [zyy, beq_iff_eq] at h2
      exact hh h2
     rw [this]
theorem zkm (L : List Mk) (x : Mk) : zcd (L ++ [x]) = x.1 := by unfold zcd; simp
theorem zrx {T T' : List Tm} {t : Tm} (h : T.Pairwise fun a b => a.2.1 ≠ b.2.1) (hp : (t :: T').Perm T) : T'.Pairwise fun a b => a.2.1 ≠ b.2.1 :=
 (zz5.1 ((hp.pairwise_iff (fun {a b} hab => Ne.symm hab)).2 h)).2
end
section
set_option maxRecDepth 1000000
variable {Q : V → Mem → Prop}
theorem zst (hl : l.length ≤ 1000) : PRun Tryz.prog 304 [.w 3 1 (l.map eI), .c [.i j]] [.w 0, .f 370 [] [.r 1 0]] fun x m => x = .w 2 ∧ m = [.x, .c [.i j], .w 3 1 ((l.filter (· != j)).map eI)] := delO_S hl ⟨rfl, rfl⟩
theorem deep0_S (K : Q (.t [.l 1 [[.n 0], [.n 0], [.n 1], [.n 2]], .i 0]) []) : PRun Tryz.prog 160 [] [.i 4, .l 2 [[.n 3, .n 1], [.n 3, .n 2], [.n 4, .n 3]]] Q := by
 have ap : ∀ {a b : List (List U)}, a.length ≤ 9 → b.length ≤ 9 → zan a b := fun ha hb => by unfold zan; omega
 refine S160s ?_
 repeat' first | exact K | apply And.intro | decide | exact ap (by decide) (by decide) | exact zst (l := [1, 2]) (by decide) | exact zst (l := [2]) (by decide) | exact zst (l := [3]) (by decide) | exact zst (l := [4]) (by decide)
theorem post_l1I : post [.L 1, .I] [] F (.t [.l 1 r, .i e]) [] = F r e := rfl
theorem catS_S {mk pl lb : Int} (h1 : 0 ≤ mk ∧ mk ≤ 8) (h2 : 1 ≤ pl ∧ pl ≤ 2) (h3 : 0 ≤ lb ∧ lb ≤ 8) :
 PRun Tryz.prog 69 [] [.a [.i 4, .l 7 [[.n 3, .n 2, .n 10, .l 2 [[.n 1, .n 3], [.n 2, .n 1]], .n 2, .n 3, .n 5], [.n 4, .n 1, .n 7, .l 2 [[.n 3, .n 2]], .n 0, .n 0, .n 3]], .i 2, .l 4 [[.n 1, .n mk, .n 1, .n 1000], [.n pl, .n 1, .n lb, .n 0]], .i 3, .i 200, .i 1, .i 500]] fun x m => x = .i 0 ∧ m = [] := by
 have ap : ∀ {a b : List (List U)}, a.length ≤ 9 → b.length ≤ 9 → zan a b := fun ha hb => by unfold zan; omega
 refine S69s ?_
 refine zp1 (b := ⟨3, 2, 10, [(1, 3), (2, 1)], 2, 3, 5⟩) (types := 4) ⟨fun t ht => ?_, by decide⟩ ?_
 · simp only [zy3, z0w, or_false] at ht; rcases ht with rfl | rfl <;> decide
 rw [show zd1 ⟨3, 2, 10, [(1, 3), (2, 1)], 2, 3, 5⟩ 4 = 0 by kernel_rfl, zaw]
 refine cNe (fun h => absurd rfl h) fun _ => zp1 (b := ⟨4, 1, 7, [(3, 2)], 0, 0, 3⟩) (types := 4) ⟨fun t ht => ?_, by decide⟩ ?_
 · simp only [zy3, z0w, or_false] at ht; subst ht; decide
 rw [show zd1 ⟨4, 1, 7, [(3, 2)], 0, 0, 3⟩ 4 = 0 by kernel_rfl, zaw]
 refine cNe (fun h => absurd rfl h) fun _ => cIf (fun _ => zhp (cIf (fun _ => ?_) fun h => absurd h1.2 h)) fun h => absurd h1.1 h
 refine cIf (fun _ => zhp (cIf (fun _ => ?_) fun h => absurd h2.2 h)) fun h => absurd h2.1 h
 refine cIf (fun _ => zhp (cIf (fun _ => ?_) fun h => absurd h3.2 h)) fun h => absurd h3.1 h
 refine ⟨ap (by decide) (by decide), ap (by decide) (by decide), ap (by decide) (by decide), deep0_S ?_⟩
 rw [post_l1I]
 refine cNe (fun h => absurd rfl h) fun _ => cIf (fun h => absurd h (by decide)) fun _ => ?_
 show ∃ (I1 : Int → Int → Prop) (f1 : Int → Int → Nat), I1 0 1 ∧ _
 refine ⟨fun x i => ∃ n : Nat, i = (n : Int) ∧ n ≤ 4 ∧ x ≤ 8, fun _ i => (4 - i).toNat, ⟨1, rfl, by decide, by decide⟩, ?_⟩
 rintro x _ ⟨n, rfl, hn, hx⟩
 refine cIf (fun hlt => ?_) fun _ => cIf (fun h => by omega) fun _ => ⟨rfl, rfl⟩
 have hlt : n < 4 := by have : (n : Int) < 4 := hlt; omega
 have ew : zyu .i64 ((n : Int) + 1) = ((n + 1 : Nat) : Int) := w64n (by omega)
 have go : ∀ {y : Int}, y ≤ 8 → (∃ k : Nat, zyu .i64 ((n : Int) + 1) = (k : Int) ∧ k ≤ 4 ∧ (if y > x then y else x) ≤ 8) ∧ (4 - zyu .i64 ((n : Int) + 1)).toNat < (4 - (n : Int)).toNat := fun hy => by
  rw [ew]
  exact ⟨⟨n + 1, rfl, by omega, by split <;> omega⟩, by omega⟩
 match n, hlt with
 | 0, _ => exact go (y := 0) (by decide)
 | 1, _ => exact go (y := 0) (by decide)
 | 2, _ => exact go (y := 1) (by decide)
 | 3, _ => exact go (y := 2) (by decide)
end
section
set_option maxRecDepth 1000000
variable {Q : V → Mem → Prop}
structure Wk where
 p : Tb
 b : Tb
 T : List Tm
 next : Int
 Lg : List Mk
 ds : List Dr
 g : Int
 l : List Sd
 js : List Jb
abbrev mkWk (C : Kt) (w : Nat) : AB := .c [.i C.ty, .l 7 (C.bl.map eB), .i C.pl, .l 4 (C.bays.map eYb), .i C.ch, .i 200, .i 1, .i 500, .r 1 0, .r 2 0, .r 3 0, .r 4 0, .r 5 0, .r 6 0, .w w]
abbrev W8 (C : Kt) (s : Wk) : Mem := [mkWk C 7, pC s.p 562, bK s.b, qO s.T 256 s.next, .o (Ob.of (ze4 s.Lg)), drB s.ds s.g, bO s.l, .w 48 16 (s.js.map za6)]
abbrev W9 (C : Kt) (s : Wk) : Mem := [mkWk C 8, pC s.p 562, bK s.b, qO s.T 256 s.next, .o (Ob.of (ze4 s.Lg)), drB s.ds s.g, bO s.l, .x, .w 48 16 (s.js.map za6)]
abbrev patW : List BP := [.c [.i .i64, .l 7, .i .i64, .l 4, .i .i64, .i .i64, .i .i64, .i .i64, .r 1 0, .r 2 0, .r 3 0, .r 4 0, .r 5 0, .r 6 0, .ow 48 16], .c [.l 5, .i .i64], .c [.l 5, .n 33], .A, .A, .c [.l 13, .i .i64], .A, .X]
abbrev FWk := Int → List (List U) → Int → List (List U) → Int → Int → Int → Int → List (List U) → List (List U) → Int → List (List U) → List Int → Ob → Ob → List (List U) → Int → Ob → Prop
abbrev apW (C : Kt) (s : Wk) (F : FWk) : Prop := F C.ty (C.bl.map eB) C.pl (C.bays.map eYb) C.ch 200 1 500 (s.js.map za6) (s.p.map eT) 562 (s.b.map eT) (zfl s.b) (Ob.of (qS s.T 256 s.next)) (Ob.of (ze4 s.Lg)) (s.ds.map eD) s.g (Ob.of (zqw s.l))
section
variable {C : Kt} {s : Wk}
theorem zig {F : FWk} : post [] patW F (.t []) (W8 C s) = apW C s F := by kernel_rfl
theorem zgi {F : FWk} : post [] patW F (.t []) (W9 C s) = apW C s F := by kernel_rfl
theorem post_I8 {F : Int → FWk} : post [.I] patW F (.i e) (W8 C s) = apW C s (F e) := by kernel_rfl
theorem zcn {F : Int → FWk} : post [.I] patW F (.i e) (W9 C s) = apW C s (F e) := by kernel_rfl
theorem zrv {F : Int → Int → FWk} {e' : Int} : post [.I, .I] patW F (.t [.i e, .i e']) (W8 C s) = apW C s (F e e') := by kernel_rfl
theorem zll {F : Int → Int → FWk} {e' : Int} : post [.I, .I] patW F (.t [.i e, .i e']) (W9 C s) = apW C s (F e e') := by kernel_rfl
theorem zcb {F : Int → Int → Int → Int → Int → Int → Int → Int → Int → Int → Int → List (List U) → Int → Int → Int → Int → Int → FWk} {j : Jb} :
 post [.agg [.i .i64, .i .i64, .i .i64, .i .i64, .i .i64, .i .i64, .i .i64, .i .i64, .i .i64, .i .i64, .i .i64, .l 2, .i .i64, .i .i64, .i .i64, .i .i64], .I] patW F (.t [jV j, .i e]) (W8 C s) =
 apW C s (F j.id j.kind j.own j.div j.who j.bay j.draft j.runs j.copies j.time j.fee (j.needs.map eS) j.st j.start j.fin j.left e) := by kernel_rfl
theorem zgg {F : Int → Int → Int → Int → Int → Int → Int → Int → Int → Int → Int → List (List U) → Int → Int → Int → Int → Int → Prop} {j : Jb} :
 post [.agg [.i .i64, .i .i64, .i .i64, .i .i64, .i .i64, .i .i64, .i .i64, .i .i64, .i .i64, .i .i64, .i .i64, .l 2, .i .i64, .i .i64, .i .i64, .i .i64], .I] [] F (.t [jV j, .i e]) [] =
 F j.id j.kind j.own j.div j.who j.bay j.draft j.runs j.copies j.time j.fee (j.needs.map eS) j.st j.start j.fin j.left e := by kernel_rfl
theorem post_BIA {F : Bool → Int → Ob → Prop} : post [.B, .I] [.A] F (.t [.u (.b x), .i n]) [.o X] = F x n X := rfl
theorem dJx {K : Int → Int → Int → Int → Int → Int → Int → Int → Int → Int → Int → List (List U) → Int → Int → Int → Int → Prop} {j : Jb} (k : K j.id j.kind j.own j.div j.who j.bay j.draft j.runs j.copies j.time j.fee (j.needs.map eS) j.st j.start j.fin j.left) :
 dI .i64 (ug (za6 j) 0) (fun x1 => dI .i64 (ug (za6 j) 1) (fun x2 => dI .i64 (ug (za6 j) 2) (fun x3 => dI .i64 (ug (za6 j) 3) (fun x4 => dI .i64 (ug (za6 j) 4) (fun x5 => dI .i64 (ug (za6 j) 5) (fun x6 => dI .i64 (ug (za6 j) 6) (fun x7 => dI .i64 (ug (za6 j) 7) (fun x8 => dI .i64 (ug (za6 j) 8) (fun x9 => dI .i64 (ug (za6 j) 9) (fun x10 => dI .i64 (ug (za6 j) 10) (fun x11 => dL 2 (ug (za6 j) 11) (fun l1 => dI .i64 (ug (za6 j) 12) (fun x12 => dI .i64 (ug (za6 j) 13) (fun x13 => dI .i64 (ug (za6 j) 14) (fun x14 => dI .i64 (ug (za6 j) 15) (fun x15 => K x1 x2 x3 x4 x5 x6 x7 x8 x9 x10 x11 l1 x12 x13 x14 x15)))))))))))))))) := k
def shJ (js : List Jb) : Prop := ∀ j ∈ js, j.needs.length ≤ 1000
theorem idx {n : Nat} (h1 : 1 ≤ id) (h2 : id ≤ (n : Int)) : ∃ i : Nat, id = (i : Int) + 1 ∧ i < n := by
 obtain ⟨i, hi⟩ := z04 (show 0 ≤ id - 1 by omega)
 exact ⟨i, by omega, by omega⟩
theorem zqc (hw : shJ s.js) (hl : s.js.length ≤ 1000) (k1 : (id < 1 ∨ (s.js.length : Int) < id) → Q (.t [jV jZ, .i 3]) (W8 C s))
 (k2 : ∀ (i : Nat) (j : Jb), s.js[i]? = some j → id = (i : Int) + 1 → Q (.t [jV j, .i 0]) (W8 C s)) : PRun Tryz.prog 30 (W8 C s) [.r 0 0, .i id] Q := by
 have hlen : ((s.js.map za6).length : Int) = (s.js.length : Int) := by rw [zy2]
 refine S30 (cIf (fun h => k1 (.inl h)) fun h1 => ?_)
 rw [hlen]
 refine cIf (fun h => k1 (.inr (by omega))) fun h2 => ?_
 rw [w64 (x := id - 1) (by omega) (by omega)]
 refine ⟨by omega, by omega, ?_⟩
 obtain ⟨i, hi, hlt⟩ := idx (id := id) (n := s.js.length) (by omega) (by omega)
 have hg := zy0 hlt
 rw [zah (r := za6 s.js[i]) (by omega) (by rw [show (id - 1).toNat = i by omega, zy5, hg]; rfl)]
 refine dJx ?_
 have hs := hw _ (z2t hlt)
 refine clone_S (by rw [zy2]; exact hs) ?_
 rw [post_L]
 exact k2 i s.js[i] hg hi
theorem jobs_S (hw : shJ s.js) (hl : s.js.length ≤ 1000) (K : Q (.l 16 (s.js.map za6)) (W9 C s)) : PRun Tryz.prog 10 (W8 C s) [.r 0 0] Q := by
 have hlen : ((s.js.map za6).length : Int) = (s.js.length : Int) := by rw [zy2]
 refine S10 ⟨fun o x a1 a2 a3 a4 a5 a6 a7 a8 r1 r2 x8 r3 t X1 X2 r4 x9 X3 => ∃ i : Nat, x = (i : Int) ∧ i ≤ s.js.length ∧ o = (s.js.take i).map za6 ∧ C.ty = a1 ∧ C.bl.map eB = a2 ∧ C.pl = a3 ∧ C.bays.map eYb = a4 ∧ C.ch = a5 ∧ 200 = a6 ∧ 1 = a7 ∧ 500 = a8 ∧ s.js.map za6 = r1 ∧ s.p.map eT = r2 ∧ 562 = x8 ∧ s.b.map eT = r3 ∧ zfl s.b = t ∧ Ob.of (qS s.T 256 s.next) = X1 ∧ Ob.of (ze4 s.Lg) = X2 ∧ s.ds.map eD = r4 ∧ s.g = x9 ∧ Ob.of (zqw s.l) = X3,
  fun _ x _ _ _ _ _ _ _ _ _ _ _ _ _ _ _ _ _ _ => (s.js.length - x).toNat, ⟨0, rfl, zzv _, rfl, rfl, rfl, rfl, rfl, rfl, rfl, rfl, rfl, rfl, rfl, rfl, rfl, rfl, rfl, rfl, rfl, rfl, rfl⟩, ?_⟩
 rintro _ _ _ _ _ _ _ _ _ _ _ _ _ _ _ _ _ _ _ _ ⟨i, rfl, hi, rfl, rfl, rfl, rfl, rfl, rfl, rfl, rfl, rfl, rfl, rfl, rfl, rfl, rfl, rfl, rfl, rfl, rfl, rfl⟩
 rw [hlen]
 refine cIf (fun hc => ?_) fun hc => ?_
 · have hlt : i < s.js.length := by omega
   have e1 : zyu .i64 ((i : Int) + 1) = ((i + 1 : Nat) : Int) := by rw [w64 (by omega) (by omega)]; omega
   rw [e1]
   refine zqc hw hl (fun h => by omega) fun j d hg hj => ?_
   have : j = i := by omega
   subst this
   rw [zcb]
   have e2 : (s.js.take j).map za6 ++ [za6 d] = (s.js.take (j + 1)).map za6 := by
    rw [z05, hg, zzr]; rfl
   refine ⟨?_, ⟨j + 1, by first | trivial | rfl, by omega, e2, by first | trivial | rfl, by first | trivial | rfl, by first | trivial | rfl, by first | trivial | rfl, by first | trivial | rfl, by first | trivial | rfl, by first | trivial | rfl, by first | trivial | rfl, by first | trivial | rfl, by first | trivial | rfl, by first | trivial | rfl, by first | trivial | rfl, by first | trivial | rfl, by first | trivial | rfl, by first | trivial | rfl, by first | trivial | rfl, by first | trivial | rfl, by first | trivial | rfl⟩, by dsimp only; omega⟩
   unfold zan
   simp
   omega
 · have : i = s.js.length := by omega
   subst this
   rw [z0r]
   exact K
abbrev runW (s : Wk) (i : Nat) (j : Jb) (now : Int) : Wk := { s with T := (now + j.left, s.next, 2 * j.id) :: s.T, next := s.next + 1, js := s.js.set i (jDo 1 j now) }
theorem runs_S {j : Jb} (hw : shJ s.js) (hl : s.js.length ≤ 1000) (hg : s.js[i]? = some j) (hid : j.id = (i : Int) + 1) (he : jE 1 j now = 0) (hT : (s.T.length : Int) < 256) (hn : s.next ≠ 1099511627776) (K : Q (.t []) (W8 C (runW s i j now))) :
 PRun Tryz.prog 200 (W8 C s) [.r 0 0, .i j.id, .i now] Q := by
 have hlen : ((s.js.map za6).length : Int) = (s.js.length : Int) := by rw [zy2]
 have hlt := (zyz.1 hg).1
 obtain ⟨hok, hnw, hmay⟩ := jE_zero.1 he
 have hnw := inJ_iff.1 hnw
 have hst : j.st = 1 := by simpa [zl2] using hmay
 obtain ⟨-, -, h3, h4⟩ := zfy hok (.inl hst)
 refine S200 ?_
 rw [hlen, w64 (x := j.id - 1) (by omega) (by omega)]
 refine ⟨by omega, by omega, ?_⟩
 rw [zah (r := za6 j) (by omega) (by rw [show (j.id - 1).toNat = i by omega, zy5, hg]; rfl)]
 refine dJx (jstart_S (j := j) (hw j (zy4 hg)) ?_)
 rw [zgg, he]
 have er : jR 1 j now = jDo 1 j now := by unfold jR; rw [if_pos he]
 rw [er]
 refine cEq (fun _ => ?_) fun h => absurd rfl h
 have ef : (jDo 1 j now).fin = now + j.left := rfl
 rw [ef, w64 (x := 2 * j.id) (by omega) (by omega)]
 refine insert_S (fun h => by omega) (fun h => by omega) fun _ _ _ => ?_
 rw [zfq]
 have hset : (s.js.map za6).set i (za6 (jDo 1 j now)) = (s.js.set i (jDo 1 j now)).map za6 := by rw [z1b]
 rw [show zyx (j.id - 1) = i by omega]
 have e3 : W8 C (runW s i j now) = [mkWk C 7, pC s.p 562, bK s.b, qO ((now + j.left, s.next, 2 * j.id) :: s.T) 256 (s.next + 1), .o (Ob.of (ze4 s.Lg)), drB s.ds s.g, bO s.l, .w 48 16 ((s.js.set i (jDo 1 j now)).map za6)] := rfl
 rw [e3, ← hset] at K
 have e2 : za6 (jDo 1 j now) = [.n (jDo 1 j now).id, .n (jDo 1 j now).kind, .n (jDo 1 j now).own, .n (jDo 1 j now).div, .n (jDo 1 j now).who, .n (jDo 1 j now).bay, .n (jDo 1 j now).draft, .n (jDo 1 j now).runs, .n (jDo 1 j now).copies, .n (jDo 1 j now).time, .n (jDo 1 j now).fee, .l 2 ((jDo 1 j now).needs.map eS), .n (jDo 1 j now).st, .n (jDo 1 j now).start, .n (now + j.left), .n (jDo 1 j now).left] := by rw [← ef]
 rw [e2] at K
 exact K
theorem stops_S (hid : 0 ≤ id ∧ id ≤ 1099511627776) (hT : s.T.Pairwise fun a b => a.2.1 ≠ b.2.1) (hTl : s.T.length ≤ 1000) (K : ∀ T', TimF s.T (2 * id) T' → Q (.t []) (W8 C { s with T := T' })) :
 PRun Tryz.prog 210 (W8 C s) [.r 0 0, .i id] Q := by
 refine S210 (qlist_S fun ys hys => ?_)
 rw [post_LA, w64 (x := 2 * id) (by omega) (by omega)]
 have hyl := hys.length_eq
 refine ⟨fun x X => SufI ys (fun r => Ob.of (qS s.T 256 s.next) = X ∧ (∀ t ∈ r, t ∈ s.T) ∧ ∀ t ∈ s.T, t.2.2 = 2 * id → t ∈ r) x, fun x _ => zq1 ys x, .zero (by omega) ⟨rfl, fun t ht => hys.mem_iff.1 ht, fun t ht _ => hys.mem_iff.2 ht⟩, ?_⟩
 rintro x _ ⟨r, sf, rfl, hr1, hr2⟩
 cases r with
 | nil =>
   rw [sf.d0, cond_false]
   exact K s.T (.inr ⟨fun t ht e => by have := hr2 t ht e; simp at this, rfl⟩)
 | cons q r =>
   simp only [sf.d1, sf.el, rT, ug0, ugs, zbs, cond_true]
   refine cEq (fun hq => ?_) fun hq => sf.step ⟨by first | trivial | rfl, fun t ht => hr1 t (zzo _ ht), fun t ht e => ?_⟩
   · refine cancel_S (fun hno => absurd rfl (hno q (hr1 q zzq))) fun t T' hpm ht => ?_
     rw [zwi]
     have hqt : t = q := zsl hT (hpm.mem_iff.1 zzq) (hr1 q zzq) ht
     exact K T' (.inl ⟨t, hpm, by rw [hqt]; exact hq⟩)
   · rcases zy3.1 (hr2 t ht e) with rfl | h
     · exact absurd e hq
     · exact h
end
end
section
set_option maxRecDepth 1000000
variable {Q : V → Mem → Prop}
inductive Lvs (s : Wk) (id now : Int) : Wk → Prop
 | no {T' : List Tm} : TimF s.T (2 * id) T' → (∀ x ∈ s.l, id ∉ x.run ∧ id ∉ x.wait) → Lvs s id now { s with T := T' }
 | one {T' : List Tm} {k : Nat} {x : Sd} : TimF s.T (2 * id) T' → s.l[k]? = some x → (id ∈ x.run ∨ id ∈ x.wait) → (lvS x id).2 = 0 → Lvs s id now { s with T := T', l := s.l.set k (lvS x id).1 }
 | two {T' : List Tm} {k : Nat} {x : Sd} {i : Nat} {j : Jb} : TimF s.T (2 * id) T' → s.l[k]? = some x → (id ∈ x.run ∨ id ∈ x.wait) → (lvS x id).2 = (i : Int) + 1 → s.js[i]? = some j → j.id = (i : Int) + 1 → jE 1 j now = 0 →
  Lvs s id now (runW { s with T := T', l := s.l.set k (lvS x id).1 } i j now)
def LvOk (s : Wk) (id now : Int) : Prop := (∀ x ∈ s.l, id ∉ x.run ∧ id ∉ x.wait) ∨ ∃ (k : Nat) (x : Sd), s.l[k]? = some x ∧ (id ∈ x.run ∨ id ∈ x.wait) ∧ (id ∈ x.wait → id ∉ x.run) ∧ (x.run ++ x.wait).Nodup ∧
 ((lvS x id).2 = 0 ∨ ∃ (i : Nat) (j : Jb), (lvS x id).2 = (i : Int) + 1 ∧ s.js[i]? = some j ∧ j.id = (i : Int) + 1 ∧ jE 1 j now = 0)
theorem TimF.len {T T' : List Tm} {w : Int} (h : TimF T w T') : T'.length ≤ T.length := by
 rcases h with ⟨t, h1, -⟩ | ⟨-, rfl⟩
 · have := h1.length_eq; simp only [zzg] at this; omega
 · exact zy9 _
section
variable {C : Kt} {s : Wk}
theorem zse (hw : shJ s.js) (hl : s.js.length ≤ 1000) (hid : 0 ≤ id ∧ id ≤ 1099511627776) (hT : s.T.Pairwise fun a b => a.2.1 ≠ b.2.1) (hTl : (s.T.length : Int) < 256) (hn : s.next ≠ 1099511627776) (hL : LvOk s id now)
 (K : ∀ s', Lvs s id now s' → Q (.t []) (W9 C s')) : PRun Tryz.prog 102 (W8 C s) [.r 0 0, .i id, .i now] Q := by
 refine S102 (stops_S hid hT (by omega) fun T' hF => ?_)
 rw [zig]
 have hTl2 := hF.len
 have hlen : ((s.js.map za6).length : Int) = (s.js.length : Int) := by rw [zy2]
 rcases hL with hno | ⟨k, x, hk, hin, hwr, hnd, hnx⟩
 · refine leave0_S hno ?_
   rw [zfq]
   intro k1 hk1
   exact cEq (fun h => absurd h (by decide)) fun _ => hk1 false (K _ (.no hF hno))
 · refine leave_S hk hin hwr hnd ?_
   rw [zfq]
   intro k1 hk1
   refine cEq (fun _ => ?_) fun h => absurd rfl h
   rcases hnx with h0 | ⟨i, j, hi, hg, hji, he⟩
   · rw [h0]
     exact cIf (fun h => absurd h (by decide)) fun _ => hk1 false (K _ (.one hF hk hin h0))
   · have hlt := (zyz.1 hg).1
     refine cIf (fun _ => ?_) fun h => absurd (show (lvS x id).2 > 0 by omega) h
     rw [hlen, decide_eq_true (show (lvS x id).2 ≤ (s.js.length : Int) by omega)]
     refine hk1 true ?_
     rw [hi, ← hji]
     refine runs_S (s := { s with T := T', l := s.l.set k (lvS x id).1 }) hw hl hg hji he (by show (T'.length : Int) < 256; omega) hn ?_
     rw [zig]
     exact K _ (.two hF hk hin hi hg hji he)
inductive Asks (s : Wk) (k : Nat) (x : Sd) (i : Nat) (j : Jb) (now : Int) : Wk → Prop
 | run : (x.run.length : Int) < x.n → Asks s k x i j now (runW { s with l := s.l.set k (zqx x j.id) } i j now)
 | wait : ¬ (x.run.length : Int) < x.n → Asks s k x i j now { s with l := s.l.set k (zqx x j.id) }
def jAt (j : Jb) : Int := 2 * (j.bay - 1) + (if j.kind = 1 then 0 else 1)
theorem asks_S {j : Jb} {x : Sd} (hw : shJ s.js) (hl : s.js.length ≤ 1000) (hg : s.js[i]? = some j) (hji : j.id = (i : Int) + 1) (he : jE 1 j now = 0) (hT : (s.T.length : Int) < 256) (hn : s.next ≠ 1099511627776)
 (hb : 1 ≤ j.bay ∧ j.bay ≤ 2) (hk : jAt j = (k : Int)) (hx : s.l[k]? = some x) (hno : ∀ x ∈ s.l, j.id ∉ x.run ∧ j.id ∉ x.wait) (hroom : (x.run.length : Int) < x.n ∨ (x.n ≠ 0 ∧ x.wait.length < 8))
 (K : ∀ s', Asks s k x i j now s' → Q (.t []) (W8 C s') ∧ Q (.t []) (W9 C s')) : PRun Tryz.prog 92 (W8 C s) [.r 0 0, jV j, .i now] Q := by
 have hlt := (zyz.1 hg).1
 refine S92 (zvh ?_)
 rw [zaw]
 refine ask_S (k := k) (s := x) hb (by split <;> omega) hk hx (by omega) hno hroom ?_
 rw [post_BIA]
 refine cB (fun h => ?_) fun h => ?_
 · have h := of_decide_eq_true h
   refine runs_S (s := { s with l := s.l.set k (zqx x j.id) }) hw hl hg hji he hT hn ?_
   rw [zig]
   exact (K _ (.run h)).2
 · have h := of_decide_eq_false h
   exact (K _ (.wait h)).1
theorem ends_S {j : Jb} (hw : shJ (s.js.set i j)) (hl : s.js.length ≤ 1000) (hi : i < s.js.length) (hji : j.id = (i : Int) + 1) (hT : s.T.Pairwise fun a b => a.2.1 ≠ b.2.1) (hTl : (s.T.length : Int) < 256) (hn : s.next ≠ 1099511627776)
 (hL : LvOk { s with js := s.js.set i j } j.id now) (K : ∀ s', Lvs { s with js := s.js.set i j } j.id now s' → Q (.t []) (W9 C { s' with Lg := zml s'.Lg (now, 1, j.id, j.st) })) :
 PRun Tryz.prog 110 (W8 C s) [.r 0 0, jV j, .i now] Q := by
 have hlen : ((s.js.map za6).length : Int) = (s.js.length : Int) := by rw [zy2]
 refine S110 ?_
 rw [hlen, w64 (x := j.id - 1) (by omega) (by omega)]
 refine ⟨by omega, by omega, ?_⟩
 have hset : (s.js.map za6).set (j.id - 1).toNat (za6 j) = (s.js.set i j).map za6 := by rw [z1b, show (j.id - 1).toNat = i by omega]
 have e1 : zzb (s.js.map za6) (zyx (j.id - 1)) [.n j.id, .n j.kind, .n j.own, .n j.div, .n j.who, .n j.bay, .n j.draft, .n j.runs, .n j.copies, .n j.time, .n j.fee, .l 2 (j.needs.map eS), .n j.st, .n j.start, .n j.fin, .n j.left] = (s.js.set i j).map za6 := hset
 rw [e1]
 refine zse (s := { s with js := s.js.set i j }) hw (by show (s.js.set i j).length ≤ 1000; rw [zzz]; exact hl) (by omega) hT hTl hn hL fun s' hs' => ?_
 rw [zgi]
 refine addM_S (x := (now, 1, j.id, j.st)) ?_
 rw [zwi]
 exact K s' hs'
end
end
variable {y : Yb}
section
set_option maxRecDepth 1000000
variable {Q : V → Mem → Prop}
structure Od where
 who : Int
 own : Int
 div : Int
 bay : Int
 draft : Int
 kind : Int
 runs : Int
 copies : Int
abbrev oV (o : Od) : V := .a [.i o.who, .i o.own, .i o.div, .i o.bay, .i o.draft, .i o.kind, .i o.runs, .i o.copies]
abbrev oM (o : Od) (y : Yb) (d : Dr) (b : Bl) (j : Jb) (m : Int) : AB := .c [.i o.who, .i o.own, .i o.div, .i o.bay, .i o.draft, .i o.kind, .i o.runs, .i o.copies, .i y.place, .i y.make, .i y.lab, .i y.rate, .i d.id, .i d.own, .i d.div, .i d.place, .i d.blue, .i d.me, .i d.te, .i d.runs, .i d.busy, .i b.makes, .i b.per, .i b.time, .l 2 (b.needs.map eS), .i b.copy, .i b.study, .i b.most, .i j.id, .i j.kind, .i j.own, .i j.div, .i j.who, .i j.bay, .i j.draft, .i j.runs, .i j.copies, .i j.time, .i j.fee, .l 2 (j.needs.map eS), .i j.st, .i j.start, .i j.fin, .i j.left, .i m]
abbrev WO (C : Kt) (s : Wk) (o : Od) (y : Yb) (d : Dr) (b : Bl) (j : Jb) (m : Int) : Mem := [mkWk C 7, pC s.p 562, bK s.b, qO s.T 256 s.next, .o (Ob.of (ze4 s.Lg)), drB s.ds s.g, bO s.l, .w 48 16 (s.js.map za6), oM o y d b j m]
def at1 {α : Type} (l : List α) (n : Int) : Option α := if 1 ≤ n then l[(n - 1).toNat]? else none
theorem zal {l : List α} {x : α} (h : l[i]? = some x) (hn : n = (i : Int) + 1) : at1 l n = some x := by
 unfold at1
 rw [if_pos (by omega), show (n - 1).toNat = i by omega]
 exact h
theorem zby {l : List α} (h : n < 1 ∨ (l.length : Int) < n) : at1 l n = none := by
 unfold at1
 split
 · exact z0m (by omega)
 · rfl
theorem zb8 {l : List α} {x : α} (h : at1 l n = some x) : ∃ i : Nat, l[i]? = some x ∧ n = (i : Int) + 1 := by
 unfold at1 at h
 split at h
 · exact ⟨(n - 1).toNat, h, by omega⟩
 · cases h
section
variable {C : Kt} {s : Wk}
theorem zyj (hl : C.bays.length ≤ 1000) (K : ∀ y e, (at1 C.bays n = some y ∧ e = 0) ∨ (at1 C.bays n = none ∧ e = 3) → Q (.t [yVb y, .i e]) []) : PRun Tryz.prog 180 [] [ctV C, .i n] Q :=
 bay_S hl (fun h => K yZ 3 (.inr ⟨zby h, rfl⟩)) fun i y hg hn => K y 0 (.inl ⟨zal hg hn, rfl⟩)
theorem zyg (hl : C.bl.length ≤ 1000) (K : ∀ b e, (at1 C.bl n = some b ∧ e = 0) ∨ (at1 C.bl n = none ∧ e = 3) → Q (.t [aB b, .i e]) []) : PRun Tryz.prog 182 [] [ctV C, .i n] Q :=
 blue_S hl (fun h => K bZ 3 (.inr ⟨zby h, rfl⟩)) fun i y hg hn => K y 0 (.inl ⟨zal hg hn, rfl⟩)
theorem get1_S {g : Int} (hd : DNum ds) (hl : ds.length ≤ 100000) (K : ∀ d e, (at1 ds id = some d ∧ e = 0) ∨ (at1 ds id = none ∧ e = 3) → Q (.t [rV d, .i e]) [drB ds g]) : PRun Tryz.prog 181 [drB ds g] [.r 0 0, .i id] Q :=
 zxw hd hl (fun h => K rZ 3 (.inr ⟨zby h, rfl⟩)) fun i y hg hn => K y 0 (.inl ⟨zal hg hn, rfl⟩)
def zfd (C : Kt) (s : Wk) (now : Int) (o : Od) : Int :=
 if inJ now 0 1099511627776 = false ∨ inJ o.kind 1 4 = false ∨ (o.kind ≠ 4 ∧ o.copies ≠ 0) then 1 else
 match at1 C.bays o.bay, at1 s.ds o.draft with
 | some y, some d => (match at1 C.bl d.blue with
   | some b => if (zau (oK o.who) s.p).isSome = false ∨ o.who < 1 then 3 else if d.own ≠ o.own ∨ d.div ≠ o.div then 8 else if d.place ≠ y.place then 9 else 0
   | none => 3)
 | _, _ => 3
structure FindF (C : Kt) (s : Wk) (now : Int) (o : Od) (y : Yb) (d : Dr) (b : Bl) : Prop where
 t : 0 ≤ now ∧ now ≤ 1099511627776
 kind : 1 ≤ o.kind ∧ o.kind ≤ 4
 cop : o.kind ≠ 4 → o.copies = 0
 bay : at1 C.bays o.bay = some y
 dr : at1 s.ds o.draft = some d
 bl : at1 C.bl d.blue = some b
 who : 1 ≤ o.who
 has : (zau (oK o.who) s.p).isSome = true
 own : d.own = o.own
 div : d.div = o.div
 place : d.place = y.place
theorem FindF.zero {o : Od} (F : FindF C s now o y d b) : zfd C s now o = 0 := by
 unfold zfd
 rw [if_neg, F.bay, F.dr]
 · simp only
   rw [F.bl]
   simp only
   have h1 := F.who; have h2 := F.own; have h3 := F.div; have h4 := F.place
   rw [F.has, if_neg (by simp; omega), if_neg (by omega), if_neg (by omega)]
 · rintro (h | h | ⟨h, h'⟩)
   · rw [inJ_iff.2 F.t] at h; cases h
   · rw [inJ_iff.2 F.kind] at h; cases h
   · exact h' (F.cop h)
theorem FindF.of {o : Od} (h : zfd C s now o = 0) : ∃ y d b, FindF C s now o y d b := by
 unfold zfd at h
 split at h
 · cases h
 · rename_i h1
   split at h
   · rename_i y d hy hd
     split at h
     · rename_i b hb
       split at h
       · cases h
       · rename_i h2
         split at h
         · cases h
         · rename_i h3
           split at h
           · cases h
           · rename_i h4
             simp only [not_or, z3q] at h1 h2 h3
             exact ⟨y, d, b, inJ_iff.1 h1.1, inJ_iff.1 h1.2.1, fun hk => by omega, hy, hd, hb, by omega, h2.1, by omega, by omega, by omega⟩
     · cases h
   · cases h
theorem zq7 {o : Od} {y0 : Yb} {d0 : Dr} {b0 : Bl} {j : Jb} {m0 : Int} (hp : PInv s.p 562) (hpl : s.p.length ≤ 800000) (hd : DNum s.ds) (hdl : s.ds.length ≤ 100000) (h1 : C.bays.length ≤ 1000) (h2 : C.bl.length ≤ 1000)
 (k1 : ∀ y d b m, zfd C s now o ≠ 0 → Q (.i (zfd C s now o)) (WO C s o y d b j m)) (k2 : ∀ y d b, FindF C s now o y d b → Q (.i 0) (WO C s o y d b j (zam (oK o.who) s.p))) :
 PRun Tryz.prog 84 (WO C s o y0 d0 b0 j m0) [.r 0 0, .i now, .r 8 0] Q := by
 have one : ∀ {y d b m}, (inJ now 0 1099511627776 = false ∨ inJ o.kind 1 4 = false ∨ (o.kind ≠ 4 ∧ o.copies ≠ 0)) → Q (.i 1) (WO C s o y d b j m) := fun {y d b m} h => by
  have := k1 y d b m
  have e : zfd C s now o = 1 := by unfold zfd; rw [if_pos h]
  rw [e] at this
  exact this (by decide)
 refine S84 ?_
 intro kk hkk
 have main : inJ now 0 1099511627776 = true → inJ o.kind 1 4 = true → (o.kind ≠ 4 → o.copies = 0) → kk := fun ht hk hc => by
  have nf : ¬ (inJ now 0 1099511627776 = false ∨ inJ o.kind 1 4 = false ∨ (o.kind ≠ 4 ∧ o.copies ≠ 0)) := by
   rw [ht, hk]; rintro (h | h | ⟨h, h'⟩)
   · cases h
   · cases h
   · exact h' (hc h)
  have E : ∀ {y d b m} (e : Int), zfd C s now o = e → e ≠ 0 → Q (.i e) (WO C s o y d b j m) := fun {y d b m} e h h0 => by
   have := k1 y d b m
   rw [h] at this
   exact this h0
  unfold zfd at E
  rw [if_neg nf] at E
  refine hkk ?_
  refine zyj h1 fun y ey hy => ?_
  rw [zli]
  refine get1_S hd hdl fun d ed hdd => ?_
  rw [zc8]
  refine zyg h2 fun b eb hb => ?_
  rw [zwc]
  refine zis hp.srt (by omega) ?_
  rw [post_IIp]
  rcases hy with ⟨hy, rfl⟩ | ⟨hy, rfl⟩
  rotate_left
  · exact cNe (fun _ => E 3 (by rw [hy]) (by decide)) fun h => absurd h (by decide)
  refine cNe (fun h => absurd rfl h) fun _ => ?_
  rcases hdd with ⟨hdd, rfl⟩ | ⟨hdd, rfl⟩
  rotate_left
  · exact cNe (fun _ => E 3 (by rw [hy, hdd]) (by decide)) fun h => absurd h (by decide)
  refine cNe (fun h => absurd rfl h) fun _ => ?_
  rw [hy, hdd] at E
  simp only at E
  rcases hb with ⟨hb, rfl⟩ | ⟨hb, rfl⟩
  rotate_left
  · exact cNe (fun _ => E 3 (by rw [hb]) (by decide)) fun h => absurd h (by decide)
  refine cNe (fun h => absurd rfl h) fun _ => ?_
  rw [hb] at E
  simp only at E
  by_cases hh : (zau (oK o.who) s.p).isSome = true
  rotate_left
  · rw [if_neg hh]
    exact cNe (fun _ => E 3 (by rw [if_pos (.inl (by simpa using hh))]) (by decide)) fun h => absurd h (by decide)
  rw [if_pos hh]
  refine cNe (fun h => absurd rfl h) fun _ => cIf (fun h => E 3 (by rw [if_pos (.inr h)]) (by decide)) fun hw => ?_
  rw [if_neg (by rw [hh]; simpa using hw)] at E
  refine cNe (fun h => E 8 (by rw [if_pos (.inl h)]) (by decide)) fun ho => cNe (fun h => E 8 (by rw [if_pos (.inr h)]) (by decide)) fun hv => ?_
  rw [if_neg (by omega)] at E
  refine cNe (fun h => E 9 (by rw [if_pos h]) (by decide)) fun hpl => ?_
  exact k2 y d b ⟨inJ_iff.1 ht, inJ_iff.1 hk, hc, hy, hdd, hb, by omega, hh, ho, hv, hpl⟩
 refine zmn (fun h => one (.inl h)) fun ht => cIf (fun h => one (.inr (.inl ?_))) fun a1 => cIf (fun h => one (.inr (.inl ?_))) fun a2 => cNe (fun a3 => cNe (fun a4 => one (.inr (.inr ⟨a3, a4⟩))) fun a4 => ?_) fun a3 => ?_
 · rw [z29]; intro hh; have := inJ_iff.1 hh; omega
 · rw [z29]; intro hh; have := inJ_iff.1 hh; omega
 · exact main ht (inJ_iff.2 ⟨by omega, by omega⟩) fun _ => a4
 · exact main ht (inJ_iff.2 ⟨by omega, by omega⟩) fun h => absurd a3 h
theorem zru {F : List (List U) → Ob → Prop} : post [.L 2] [.A] F (.l 2 r) [.o X] = F r X := rfl
def zju (who : Int) (js : List Jb) : Int := ((js.filter fun j => j.who == who && zfz j).length : Int)
theorem ztl (who : Int) (js : List Jb) (j : Jb) : zju who (js ++ [j]) = zju who js + (if j.who = who ∧ zfz j = true then 1 else 0) := by
 unfold zju
 rw [z2i, zzl, List.filter_cons, List.filter_nil]
 by_cases h : j.who = who ∧ zfz j = true
 · rw [if_pos h, if_pos (by simp [h.1, h.2])]; simp
 · rw [if_neg h, if_neg (by simpa using h)]; simp
def zcm (x : Sd) : Bool := decide (0 < x.n - (x.run.length : Int)) || (decide (0 < x.run.length) && decide (x.wait.length < 8))
def zt5 (s : Wk) (o : Od) (x : Sd) (d : Dr) : Int := if 64 ≤ s.js.length then 4 else if 6 ≤ zju o.who s.js ∨ zcm x = false then 10 else if d.busy ≠ 0 then 12 else 0
theorem wfits_S {o : Od} {j : Jb} {m : Int} {x : Sd} (hw : shJ s.js) (hl : s.js.length ≤ 1000) (hb : 1 ≤ o.bay ∧ o.bay ≤ 2) (hk : 2 * (o.bay - 1) + (if o.kind = 1 then 0 else 1) = (k : Int)) (hx : s.l[k]? = some x)
 (hxl : x.run.length ≤ 1000 ∧ x.wait.length ≤ 1000) (K : Q (.i (zt5 s o x d)) (WO C s o y d b j m)) : PRun Tryz.prog 85 (WO C s o y d b j m) [.r 0 0, .r 8 0] Q := by
 have hlen : ((s.js.map za6).length : Int) = (s.js.length : Int) := by rw [zy2]
 have ob : ∀ i : Nat, i ≤ s.js.length → 0 ≤ zju o.who (s.js.take i) ∧ zju o.who (s.js.take i) ≤ i := fun i hi => by
  unfold zju
  have := z0b (fun j : Jb => j.who == o.who && zfz j) (s.js.take i)
  rw [zz1] at this
  omega
 refine S85 ⟨fun c x => ∃ i : Nat, x = (i : Int) ∧ i ≤ s.js.length ∧ c = zju o.who (s.js.take i), fun _ x => (s.js.length - x).toNat, ⟨0, rfl, zzv _, rfl⟩, ?_⟩
 rintro _ _ ⟨i, rfl, hi, rfl⟩
 rw [hlen]
 refine cIf (fun hc => ?_) fun hc => ?_
 · have hlt : i < s.js.length := by omega
   have hg := zy0 hlt
   have e1 : zyu .i64 ((i : Int) + 1) = ((i + 1 : Nat) : Int) := by rw [w64 (by omega) (by omega)]; omega
   refine ⟨by omega, by omega, ?_⟩
   rw [zah (r := za6 s.js[i]) (by omega) (by rw [zzm, zy5, hg]; rfl)]
   refine dJx ?_
   have hs1 := ztl o.who (s.js.take i) s.js[i]
   rw [← List.take_succ_eq_append_getElem hlt] at hs1
   have hbd := ob i hi
   rw [e1]
   refine cEq (fun hq => jopen_S (j := s.js[i]) ?_) fun hq => ?_
   · rw [zb7]
     refine cB (fun ho => ?_) fun ho => ?_
     · rw [if_pos ⟨hq, ho⟩] at hs1
       rw [w64 (x := zju o.who (List.take i s.js) + 1) (by omega) (by omega)]
       exact ⟨⟨i + 1, by first | trivial | rfl, by omega, hs1.symm⟩, by dsimp only; omega⟩
     · rw [if_neg (by simp [ho])] at hs1
       exact ⟨⟨i + 1, by first | trivial | rfl, by omega, by omega⟩, by dsimp only; omega⟩
   · rw [if_neg (by simp [hq])] at hs1
     exact ⟨⟨i + 1, by first | trivial | rfl, by omega, by omega⟩, by dsimp only; omega⟩
 · have : i = s.js.length := by omega
   subst this
   rw [z0r]
   unfold zt5 at K
   refine cIf (fun h => ?_) fun h => ?_
   · rw [if_pos (by omega)] at K; exact K
   rw [if_neg (by omega)] at K
   refine cIf (fun h => ?_) fun h2 => zvh ?_
   · rw [if_pos (.inl h)] at K; exact K
   rw [zaw]
   refine free_S (k := k) (s := x) hb (by split <;> omega) hk hx ?_
   rw [zfq]
   refine cNe (fun h => absurd rfl h) fun _ => ?_
   have busy : zcm x = true → (bif d.busy != 0 then Q (.i 12) (WO C s o y d b j m) else Q (.i 0) (WO C s o y d b j m) : Prop) := fun hr => by
    rw [if_neg (by rw [hr]; simp; omega)] at K
    refine cNe (fun h => ?_) fun h => ?_
    · rw [if_pos h] at K; exact K
    · rw [if_neg (by omega)] at K; exact K
   have full : zcm x = false → Q (.i 10) (WO C s o y d b j m) := fun hr => by
    rw [if_pos (.inr hr)] at K; exact K
   refine cIf (fun h => ?_) fun h => zw6 ?_
   · exact busy (by unfold zcm; rw [decide_eq_true (by omega)]; rfl)
   · rw [zru]
     rw [w64 (x := o.bay - 1) (by omega) (by omega), w64 (x := 2 * (o.bay - 1)) (by omega) (by omega), w64 (x := 2 * (o.bay - 1) + _) (by split <;> omega) (by split <;> omega), hk]
     rw [zah (r := lnR x) (by omega) (by rw [zzm, zy5, hx]; rfl)]
     simp only [lnR, ug0, ugs, dL_l]
     have hr1 : ((x.run.map eI).length : Int) = (x.run.length : Int) := by rw [zy2]
     have hr2 : ((x.wait.map eI).length : Int) = (x.wait.length : Int) := by rw [zy2]
     rw [hr1, hr2]
     refine cIf (fun h3 => ?_) fun h3 => ?_
     · refine zhp (cIf (fun h4 => ?_) fun h4 => ?_)
       · exact busy (by unfold zcm; rw [decide_eq_true (show 0 < x.run.length by omega), decide_eq_true (show x.wait.length < 8 by omega)]; simp)
       · exact full (by unfold zcm; rw [decide_eq_false (by omega), decide_eq_false (show ¬ x.wait.length < 8 by omega)]; simp)
     · exact full (by unfold zcm; rw [decide_eq_false (by omega), decide_eq_false (show ¬ 0 < x.run.length by omega)]; simp)
end
end
variable {o : Od}
section
set_option maxRecDepth 1000000
variable {Q : V → Mem → Prop}
noncomputable def zba (b : Bl) (d : Dr) (o : Od) : Int × Int :=
 if o.kind = 1 then ztd b d.te o.runs else if o.kind = 2 then ze2 b d.me o.runs else if o.kind = 3 then ze2 b d.te o.runs else zt9 b o.copies o.runs
def mx1 (t : Int) : Int := if t > 1 then t else 1
noncomputable def zcg (b : Bl) (d : Dr) (o : Od) : List Stk × Int := if o.kind = 1 then zio b d.me o.runs else ([], 0)
def zca (d : Dr) (o : Od) : Prop := o.runs < 1 ∨ 1000 < o.runs ∨ (o.kind ≠ 1 ∧ d.runs ≠ -1) ∨ (o.kind = 1 ∧ d.runs ≠ -1 ∧ d.runs < o.runs)
instance (d : Dr) (o : Od) : Decidable (zca d o) := by unfold zca; infer_instance
noncomputable def zcy (b : Bl) (d : Dr) (o : Od) : Int := if zca d o then 11 else if (zcg b d o).2 ≠ 0 then (zcg b d o).2 else if (zba b d o).2 ≠ 0 then 11 else 0
noncomputable def zd9 (y : Yb) (b : Bl) (d : Dr) (o : Od) (j : Jb) : Jb := { j with needs := (zcg b d o).1, time := mx1 (zba b d o).1, left := mx1 (zba b d o).1, fee := upI (mx1 (zba b d o).1 * y.rate) 10000 }
theorem zrw (h : (zba b d o).2 = 0) : 0 ≤ (zba b d o).1 ∧ (zba b d o).1 ≤ 1099511627775 := by
 unfold zba at h ⊢
 split at h
 · rename_i hk
   rw [if_pos hk]
   unfold ztd at h ⊢
   split at h
   · rename_i hh
     rw [if_pos hh]
     obtain ⟨⟨h1, h2⟩, h3⟩ := hh
     have ok := (blueE_ok.1 h1).time
     rw [zgr] at h2 h3
     obtain ⟨t0, t1, t2, t3⟩ := zu7 ok h3 h2
     have := upI_bd t2 (b := 100) (by decide)
     omega
   · cases h
 · rename_i hk
   rw [if_neg hk]
   have st : ∀ l, (ze2 b l o.runs).2 = 0 → 0 ≤ (ze2 b l o.runs).1 ∧ (ze2 b l o.runs).1 ≤ 1099511627775 := fun l hl => by
    unfold ze2 at hl ⊢
    split at hl
    · rename_i hh
      rw [if_pos hh]
      obtain ⟨h1, h2, h3⟩ := hh
      have ok := (blueE_ok.1 h1).study
      rw [inJ_iff] at h2 h3
      obtain ⟨-, -, -, p4, p5⟩ := zre ok h2 h3
      simp only
      omega
    · cases hl
   split at h
   · rename_i hk2; rw [if_pos hk2]; exact st _ h
   · rename_i hk2
     rw [if_neg hk2]
     split at h
     · rename_i hk3; rw [if_pos hk3]; exact st _ h
     · rename_i hk3
       rw [if_neg hk3]
       unfold zt9 at h ⊢
       split at h
       · rename_i hh
         rw [if_pos hh]
         obtain ⟨h1, h2, h3⟩ := hh
         have ok := blueE_ok.1 h1
         have o1 := ok.copy; have o2 := ok.most
         rw [inJ_iff] at h2 h3
         have a1 := zec (x := b.copy) (y := o.copies) (X := 1048576) (Y := 10) (by omega) (by omega) (by omega) (by omega)
         have a2 := zec (x := b.copy * o.copies) (y := o.runs) (X := 10485760) (Y := 1000) (by omega) (by omega) (by omega) (by omega)
         simp only
         omega
       · cases h
theorem mx1_bd {t : Int} (h : 0 ≤ t ∧ t ≤ 1099511627775) : 1 ≤ mx1 t ∧ mx1 t ≤ 1099511627775 := by
 unfold mx1
 split <;> omega
theorem post_L2I : post [.L 2, .I] [] F (.t [.l 2 r, .i n]) [] = F r n := rfl
section
variable {o : Od} {y : Yb} {d : Dr} {b : Bl} {j : Jb} {m : Int}
theorem zwo (hb : b.Rg) (hbq : ∀ s ∈ b.needs, s.2 ≤ 1099511627776) (hk : 1 ≤ o.kind ∧ o.kind ≤ 4) (hme : 0 ≤ d.me ∧ d.me ≤ 10) (hte : 0 ≤ d.te ∧ d.te ≤ 10) (hr : 0 ≤ y.rate ∧ y.rate ≤ 10000) (hn : j.needs = [])
 (k1 : ∀ j', zcy b d o ≠ 0 → Q (.i (zcy b d o)) [oM o y d b j' m]) (k2 : zcy b d o = 0 → Q (.i 0) [oM o y d b (zd9 y b d o j) m]) :
 PRun Tryz.prog 86 [oM o y d b j m] [.r 0 0] Q := by
 refine S86 ?_
 intro kk hkk
 have bad : zca d o → ∀ j', Q (.i 11) [oM o y d b j' m] := fun h j' => by
  have := k1 j'
  have e : zcy b d o = 11 := by unfold zcy; rw [if_pos h]
  rw [e] at this
  exact this (by decide)
 have main : ¬ zca d o → kk := fun hnb => by
  have E1 : (zcg b d o).2 ≠ 0 → ∀ j', Q (.i (zcg b d o).2) [oM o y d b j' m] := fun h j' => by
   have := k1 j'
   have e : zcy b d o = (zcg b d o).2 := by unfold zcy; rw [if_neg hnb, if_pos h]
   rw [e] at this
   exact this h
  have E2 : (zcg b d o).2 = 0 → (zba b d o).2 ≠ 0 → ∀ j', Q (.i 11) [oM o y d b j' m] := fun h h2 j' => by
   have := k1 j'
   have e : zcy b d o = 11 := by unfold zcy; rw [if_neg hnb, if_neg (by simpa using h), if_pos h2]
   rw [e] at this
   exact this (by decide)
  refine hkk ?_
  intro kt hkt
  -- behind the time
  have fin : ∀ (nd : List Stk), nd = (zcg b d o).1 → (zcg b d o).2 = 0 → kt (zba b d o).2 o.who o.own o.div o.bay o.draft o.kind o.runs o.copies y.place y.make y.lab y.rate d.id d.own d.div d.place d.blue d.me d.te d.runs d.busy b.makes b.per b.time (b.needs.map eS) b.copy b.study b.most j.id j.kind j.own j.div j.who j.bay j.draft j.runs j.copies (zba b d o).1 j.fee (nd.map eS) j.st j.start j.fin j.left m := fun nd hnd h0 => by
   refine hkt _ _ _ _ _ _ _ _ _ _ _ _ _ _ _ _ _ _ _ _ _ _ _ _ _ _ _ _ _ _ _ _ _ _ _ _ _ _ _ _ _ _ _ _ _ _ ?_
   refine cNe (fun h => E2 h0 h { j with needs := nd, time := (zba b d o).1 }) fun h => ?_
   have hbd := zrw h
   have hm := mx1_bd hbd
   have em : (if (zba b d o).1 > 1 then (zba b d o).1 else 1) = mx1 (zba b d o).1 := rfl
   rw [em]
   refine feeBay_S ?_
   have hf : feeY y.rate (mx1 (zba b d o).1) = (upI (mx1 (zba b d o).1 * y.rate) 10000, 0) := by
    unfold feeY
    rw [if_pos ⟨inJ_iff.2 hr, inJ_iff.2 ⟨by omega, by omega⟩⟩]
   rw [zb1, hf]
   have := k2 (by unfold zcy; rw [if_neg hnb, if_neg (by simpa using h0), if_neg (by simpa using h)])
   unfold zd9 at this
   rw [← hnd] at this
   exact this
  refine cEq (fun h1 => ?_) fun h1 => ?_
  · have en : zcg b d o = zio b d.me o.runs := by unfold zcg; rw [if_pos h1]
    have et : zba b d o = ztd b d.te o.runs := by unfold zba; rw [if_pos h1]
    refine pNeeds_S hb hbq ?_
    rw [← en, post_L2I]
    refine cNe (fun h => E1 h { j with needs := (zcg b d o).1 }) fun h => pTime_S hb ?_
    rw [← et, zb1]
    exact fin _ rfl h
  · have en : zcg b d o = ([], 0) := by unfold zcg; rw [if_neg h1]
    have fin' := fin [] (by rw [en]) (by rw [en])
    have fin2 : kt (zba b d o).2 o.who o.own o.div o.bay o.draft o.kind o.runs o.copies y.place y.make y.lab y.rate d.id d.own d.div d.place d.blue d.me d.te d.runs d.busy b.makes b.per b.time (b.needs.map eS) b.copy b.study b.most j.id j.kind j.own j.div j.who j.bay j.draft j.runs j.copies (zba b d o).1 j.fee (j.needs.map eS) j.st j.start j.fin j.left m := by rw [hn]; exact fin'
    clear fin fin'
    refine cEq (fun h2 => ?_) fun h2 => cEq (fun h3 => ?_) fun h3 => cEq (fun h4 => ?_) fun h4 => by omega
    · have et : zba b d o = ze2 b d.me o.runs := by unfold zba; rw [if_neg h1, if_pos h2]
      refine zu9 hb hme ?_
      rw [← et, zb1]
      exact fin2
    · have et : zba b d o = ze2 b d.te o.runs := by unfold zba; rw [if_neg h1, if_neg h2, if_pos h3]
      refine zu9 hb hte ?_
      rw [← et, zb1]
      exact fin2
    · have et : zba b d o = zt9 b o.copies o.runs := by unfold zba; rw [if_neg h1, if_neg h2, if_neg h3]
      refine copy_S hb ?_
      rw [← et, zb1]
      exact fin2
 refine cIf (fun h => bad (.inl h) j) fun a1 => cIf (fun h => bad (.inr (.inl h)) j) fun a2 => cNe (fun a3 => zhp (cEq (fun a4 => ?_) fun a4 => bad (.inr (.inr (.inl ⟨a3, a4⟩))) j)) fun a3 => ?_
 · have := main (by unfold zca; omega)
   exact cEq (fun h => absurd h a3) fun _ => this
 · refine cEq (fun _ => zhp (cEq (fun a4 => main (by unfold zca; omega)) fun a4 => cIf (fun a5 => bad (.inr (.inr (.inr ⟨a3, a4, a5⟩))) j) fun a5 => main (by unfold zca; omega))) fun h => absurd a3 h
end
end
section
set_option maxRecDepth 1000000
variable {Q : V → Mem → Prop}
structure KtOk (C : Kt) : Prop where
 bays : C.bays.length = 2
 bay : ∀ y ∈ C.bays, (1 ≤ y.place ∧ y.place ≤ 8) ∧ (0 ≤ y.rate ∧ y.rate ≤ 10000)
 bl : C.bl.length ≤ 1000
 rg : ∀ b ∈ C.bl, b.Rg
 q : ∀ b ∈ C.bl, ∀ s ∈ b.needs, s.2 ≤ 1099511627776
def zjw (n : Nat) (o : Od) : Jb := ⟨(n : Int) + 1, o.kind, o.own, o.div, o.who, o.bay, o.draft, o.runs, o.copies, 0, 0, [], 1, 0, 0, 0⟩
def zbj (j : Jb) : Int := if j.kind = 1 then j.runs else 0
structure InsF (C : Kt) (s : Wk) (now : Int) (o : Od) (y : Yb) (d : Dr) (b : Bl) (k : Nat) (x : Sd) (j : Jb) (p' b' : Tb) : Prop where
 find : FindF C s now o y d b
 at1 : jAt j = (k : Int)
 side : s.l[k]? = some x
 len : s.js.length < 64
 room : zcm x = true
 busy : d.busy = 0
 plan : zcy b d o = 0
 job : j = zd9 y b d o (zjw s.js.length o)
 fee : j.fee ≤ zam (oK o.who) s.p
 lie : ∀ t ∈ j.needs, t.2 ≤ zam (bin ⟨o.own, o.div, y.place, 1⟩ t.1) s.b
 pur : p' = movP o.who 0 j.fee s.p
 pinv : PInv p' 562
 plen : p'.length = s.p.length
 bins : ∃ l1, zb5 ⟨o.own, o.div, y.place, 1⟩ j.needs s.b = some l1 ∧ BInv l1 ∧ b' = zie (vK j.id y.place) j.needs l1
 binv : BInv b'
 blen : b'.length ≤ s.b.length + 16
 ok : jOk j = true
 fit : zt5 s o x d = 0
theorem findE_nn (C : Kt) (s : Wk) (now : Int) (o : Od) : 0 ≤ zfd C s now o := by
 unfold zfd
 split
 · decide
 · split
   · split
     · split
       · decide
       · split
         · decide
         · split <;> decide
     · decide
   · decide
theorem fitE_nn (s : Wk) (o : Od) (x : Sd) (d : Dr) : 0 ≤ zt5 s o x d := by
 unfold zt5
 repeat' split
 all_goals decide
theorem planE_nn (b : Bl) (d : Dr) (o : Od) : 0 ≤ zcy b d o := by
 unfold zcy
 split
 · decide
 · split
   · unfold zcg
     split
     · unfold zio
       repeat' split
       all_goals first | exact zzk 0 | decide
     · exact zzk 0
   · split <;> decide
theorem zwj (h : 0 ≤ e) (h0 : e ≠ 0) : ∃ k : Nat, e = Int.ofNat (k + 1) := by
 obtain ⟨n, rfl⟩ := z04 h
 cases n with
 | zero => exact absurd rfl h0
 | succ k => exact ⟨k, rfl⟩
theorem zlu (h : (zcg b d o).2 = 0) : zfe (zcg b d o).1 32 = 0 ∧ (o.kind = 1 ∨ (zcg b d o).1 = []) := by
 unfold zcg at h ⊢
 split at h
 · rename_i hk
   rw [if_pos hk]
   refine ⟨?_, .inl hk⟩
   unfold zio at h ⊢
   split at h
   · rename_i hh
     rw [if_pos hh]
     split at h
     · cases h
     · rename_i hov
       rw [if_neg hov]
       obtain ⟨⟨h1, h2⟩, h3⟩ := hh
       rw [zgr] at h2 h3
       have hc := (blueE_ok.1 h1).needs
       refine chkE_iff.2 ⟨?_, ?_, ?_⟩
       · show (zjz b.needs o.runs d.me).length ≤ 8
         unfold zjz
         rw [zy2]
         exact hc.len
       · show (zjz b.needs o.runs d.me).Pairwise _
         unfold zjz
         rw [z17]
         exact hc.rise
       · intro t ht
         have ht : t ∈ zjz b.needs o.runs d.me := ht
         unfold zjz at ht
         obtain ⟨q, hq, rfl⟩ := zzu.1 ht
         have he := hc.el q hq
         refine ⟨he.1, he.2.1, ?_, ?_⟩
         · show 1 ≤ zjx q.2 o.runs d.me
           unfold zjx
           have : o.runs ≤ max o.runs (upI (q.2 * (o.runs * (100 - d.me))) 100) := Int.le_max_left _ _
           omega
         · show zjx q.2 o.runs d.me ≤ zjm
           rcases Int.lt_or_le zjm (zjx q.2 o.runs d.me) with h | h
           · exact absurd (List.any_eq_true.2 ⟨q, hq, decide_eq_true h⟩) hov
           · exact h
   · cases h
 · rename_i hk
   rw [if_neg hk]
   exact ⟨by decide, .inr rfl⟩
theorem cop_ok (hk : o.kind = 4) (h : (zba b d o).2 = 0) : inJ o.copies 1 10 = true := by
 unfold zba at h
 rw [if_neg (by omega), if_neg (by omega), if_neg (by omega)] at h
 unfold zt9 at h
 split at h
 · rename_i hh; exact hh.2.1
 · cases h
theorem zcj (h : zcy b d o = 0) : ¬ zca d o ∧ (zcg b d o).2 = 0 ∧ (zba b d o).2 = 0 := by
 unfold zcy at h
 split at h
 · cases h
 · rename_i h1
   split at h
   · rename_i h2; exact absurd h h2
   · rename_i h2
     split at h
     · cases h
     · rename_i h3
       exact ⟨h1, by simpa using h2, by simpa using h3⟩
theorem znu {j : Jb} (hr : 0 ≤ y.rate ∧ y.rate ≤ 10000) (h : zcy b d o = 0) : 0 ≤ (zd9 y b d o j).fee ∧ (zd9 y b d o j).fee ≤ 1099511627775 ∧ 1 ≤ (zd9 y b d o j).time ∧ (zd9 y b d o j).time ≤ 1099511627775 := by
 have hm := mx1_bd (zrw (zcj h).2.2)
 have hf := feeY_bd hr (time := mx1 (zba b d o).1) (by omega)
 show 0 ≤ upI (mx1 (zba b d o).1 * y.rate) 10000 ∧ upI (mx1 (zba b d o).1 * y.rate) 10000 ≤ 1099511627775 ∧ 1 ≤ mx1 (zba b d o).1 ∧ mx1 (zba b d o).1 ≤ 1099511627775
 omega
theorem jOk_new {C : Kt} {s : Wk} (hF : FindF C s now o y d b) (hC : KtOk C) (hp : PInv s.p 562) (hd : isD d = true) (hown : 1 ≤ d.own) (hl : s.js.length < 64) (hdl : s.ds.length ≤ 100000) (h : zcy b d o = 0) : jOk (zd9 y b d o (zjw s.js.length o)) = true := by
 obtain ⟨hr, hN, hT⟩ := zcj h
 have hy := hC.bay y (by obtain ⟨i, hi, -⟩ := zb8 hF.bay; exact zy4 hi)
 have hfee := znu (j := zjw s.js.length o) hy.2 h
 have hn := zlu hN
 have hdd := zf0 hd
 obtain ⟨ib, hib, hbn⟩ := zb8 hF.bay
 obtain ⟨id, hid, hdn⟩ := zb8 hF.dr
 have hbl := (zyz.1 hib).1
 have hdl2 := (zyz.1 hid).1
 have hbs := hC.bays
 have hwho : o.who ≤ 1099511627776 := by
  obtain ⟨v, hv⟩ := z2k.1 hF.has
  have := hp.key _ (zen hv)
  have h2 := this.2.2.1
  exact h2
 have ho := hF.own; have hdv := hF.div; have hk := hF.kind; have hw := hF.who
 unfold zca at hr
 unfold jOk
 rw [zyy]
 constructor
 · unfold zo3 jNum jCop zqe
   simp only [zyy, inJ_iff]
   show _ ∧ _ ∧ _ ∧ _ ∧ _ ∧ _ ∧ _ ∧ _ ∧ _
   refine ⟨?_, ?_, ?_, ?_, ?_, ?_, ⟨hk, ?_, ?_, ?_⟩, ?_, ?_⟩
   · show 1 ≤ (s.js.length : Int) + 1 ∧ (s.js.length : Int) + 1 ≤ 1099511627776; omega
   · show 1 ≤ o.own ∧ o.own ≤ 1099511627776; omega
   · exact ⟨hw, hwho⟩
   · show 1 ≤ o.bay ∧ o.bay ≤ 1099511627776; omega
   · show 1 ≤ o.draft ∧ o.draft ≤ 1099511627776; omega
   · omega
   · show 0 ≤ o.div ∧ o.div ≤ 4; omega
   · show 1 ≤ o.runs ∧ o.runs ≤ 1000; omega
   · omega
   · show (if o.kind = 4 then inJ o.copies 1 10 else o.copies == 0) = true
     split
     · rename_i h4; exact cop_ok h4 hT
     · rename_i h4; rw [hF.cop h4]; rfl
   · show (zfe (zcg b d o).1 32 == 0) = true ∧ (o.kind == 1 || ((zcg b d o).1.length : Int) == 0) = true
     rw [hn.1]
     refine ⟨rfl, ?_⟩
     rcases hn.2 with h1 | h1
     · rw [h1]; rfl
     · rw [h1]; simp
 · have h3 := hfee.2.2
   unfold jSt
   rw [if_pos (.inl rfl), zyy]
   refine ⟨rfl, inJ_iff.2 ?_⟩
   show 1 ≤ (zd9 y b d o (zjw s.js.length o)).time ∧ _ ≤ (zd9 y b d o (zjw s.js.length o)).time
   exact ⟨h3.1, zzk _⟩
end
section
set_option maxRecDepth 1000000
variable {Q : V → Mem → Prop}
theorem zkr {A : Prop} (h : A) : dup2 A := ⟨h, h⟩
theorem isB_of {a b c : Int} (h1 : 0 ≤ a ∧ a ≤ 1099511627776) (h2 : 0 ≤ b ∧ b ≤ 4) (h3 : 1 ≤ c ∧ c ≤ 8) : isB (bin ⟨a, b, c, 1⟩ 1) = true := by
 simp only [isB, zyy, decide_eq_true_eq]
 omega
section
variable {C : Kt} {s : Wk}
theorem post_Ip2 {F : Int → List (List U) → Int → Prop} {r : Tb} : post [.I] [.c [.l 5, .i .i64]] F (.i e) [pC r n] = F e (r.map eT) n := rfl
theorem zdr {F : Int → List (List U) → Int → Prop} {g : Int} : post [.I] [.c [.l 13, .i .i64]] F (.i e) [drB ds g] = F e (ds.map eD) g := rfl
abbrev insW (s : Wk) (i : Nat) (d : Dr) (j : Jb) (p' b' : Tb) : Wk := { s with p := p', b := b', ds := s.ds.set i (zug d ((s.js.length : Int) + 1) (zbj j)), js := s.js ++ [j] }
noncomputable def insE (C : Kt) (s : Wk) (now : Int) (o : Od) : Int :=
 if zfd C s now o ≠ 0 then zfd C s now o else
 match at1 C.bays o.bay, at1 s.ds o.draft with
 | some y, some d => (match at1 C.bl d.blue, s.l[(2 * (o.bay - 1) + (if o.kind = 1 then 0 else 1)).toNat]? with
   | some b, some x => if zt5 s o x d ≠ 0 then zt5 s o x d else if zcy b d o ≠ 0 then zcy b d o else
     if zam (oK o.who) s.p < (zd9 y b d o (zjw s.js.length o)).fee then 6 else
     if (zd9 y b d o (zjw s.js.length o)).needs.all (fun t => decide (t.2 ≤ zam (bin ⟨o.own, o.div, y.place, 1⟩ t.1) s.b)) then 0 else 7
   | _, _ => 3)
 | _, _ => 3
theorem zxq {x : Sd} (F : FindF C s now o y d b) (hk : 2 * (o.bay - 1) + (if o.kind = 1 then 0 else 1) = (k : Int)) (hx : s.l[k]? = some x) :
 insE C s now o = if zt5 s o x d ≠ 0 then zt5 s o x d else if zcy b d o ≠ 0 then zcy b d o else
  if zam (oK o.who) s.p < (zd9 y b d o (zjw s.js.length o)).fee then 6 else
  if (zd9 y b d o (zjw s.js.length o)).needs.all (fun t => decide (t.2 ≤ zam (bin ⟨o.own, o.div, y.place, 1⟩ t.1) s.b)) then 0 else 7 := by
 unfold insE
 rw [if_neg (by rw [F.zero]; simp), F.bay, F.dr]
 simp only
 rw [F.bl, show (2 * (o.bay - 1) + (if o.kind = 1 then 0 else 1)).toNat = k by omega, hx]
theorem inst_S (hC : KtOk C) (hp : PInv s.p 562) (hpl : s.p.length ≤ 700000) (hb : BInv s.b) (hbl : s.b.length ≤ 700000) (hd : DNum s.ds) (hdl : s.ds.length ≤ 1000) (hdo : ∀ d ∈ s.ds, isD d = true ∧ 1 ≤ d.own) (hw : shJ s.js) (hl : s.js.length ≤ 1000)
 (hs4 : s.l.length = 4) (hsl : ∀ x ∈ s.l, x.run.length ≤ 1000 ∧ x.wait.length ≤ 1000 ∧ (x.run.length : Int) ≤ x.n) (hT : (s.T.length : Int) < 256) (hn : s.next ≠ 1099511627776) (hfresh : ∀ x ∈ s.l, (s.js.length : Int) + 1 ∉ x.run ∧ (s.js.length : Int) + 1 ∉ x.wait)
 (k1 : ∀ e, e ≠ 0 → insE C s now o = e → Q (.t [.i 0, .i e]) (W8 C s))
 (k2 : ∀ (i : Nat) (y : Yb) (d : Dr) (b : Bl) (k : Nat) (x : Sd) (j : Jb) (p' b' : Tb) (s' : Wk), s.ds[i]? = some d → o.draft = (i : Int) + 1 → InsF C s now o y d b k x j p' b' → Asks (insW s i d j p' b') k x s.js.length j now s' → Q (.t [.i ((s.js.length : Int) + 1), .i 0]) (W9 C s')) :
 PRun Tryz.prog 29 (W8 C s) [.r 0 0, .i now, oV o] Q := by
 have hlen : ((s.js.map za6).length : Int) = (s.js.length : Int) := by rw [zy2]
 have eid : zyu .i64 (((s.js.map za6).length : Int) + 1) = (s.js.length : Int) + 1 := by rw [hlen, w64 (by omega) (by omega)]
 have hcb : C.bays.length ≤ 1000 := by have := hC.bays; omega
 -- what it names
 by_cases hf : zfd C s now o = 0
 rotate_left
 · obtain ⟨ek, hek⟩ := zwj (findE_nn C s now o) hf
   refine S29e1 (ek := ek) ⟨?_, k1 _ (by rw [← hek]; exact hf) (by rw [← hek]; unfold insE; rw [if_pos hf])⟩
   rw [eid]
   refine PRun.drop 8 ?_
   refine zq7 (y0 := yZ) (d0 := rZ) (b0 := bZ) (j := zjw s.js.length o) (m0 := 0) hp (by omega) hd (by omega) hcb hC.bl (fun y d b m h => ?_) fun y d b F => ?_
   · exact ⟨by rw [hek], rfl⟩
   · exact absurd F.zero hf
 obtain ⟨y, d, b, F⟩ := FindF.of hf
 obtain ⟨iy, hiy, hyn⟩ := zb8 F.bay
 obtain ⟨i, hi, hdn⟩ := zb8 F.dr
 obtain ⟨ib, hib, hbn⟩ := zb8 F.bl
 have hyb := (zyz.1 hiy).1
 have hid := (zyz.1 hi).1
 have hC2 := hC.bays
 have hyok := hC.bay y (zy4 hiy)
 have hbr := hC.rg b (zy4 hib)
 have hdd := hdo d (zy4 hi)
 have hdI := zf0 hdd.1
 have hkd := F.kind
 obtain ⟨k, hk⟩ : ∃ k : Nat, 2 * (o.bay - 1) + (if o.kind = 1 then 0 else 1) = (k : Int) := ⟨(2 * (o.bay - 1) + (if o.kind = 1 then 0 else 1)).toNat, by split <;> omega⟩
 have hk4 : k < s.l.length := by rw [hs4]; split at hk <;> omega
 have hx := zy0 hk4
 generalize s.l[k] = x at hx
 have hE := zxq F hk hx
 have hxl := hsl x (zy4 hx)
 have P1 : ∀ {R : V → Mem → Prop}, R (.i 0) (WO C s o y d b (zjw s.js.length o) (zam (oK o.who) s.p)) → PRun Tryz.prog 84 (WO C s o yZ rZ bZ (zjw s.js.length o) 0) [.r 0 0, .i now, .r 8 0] R := fun {R} h => by
  refine zq7 hp (by omega) hd (by omega) hcb hC.bl (fun y d b m h => absurd hf h) fun y' d' b' F' => ?_
  have e1 := F.bay; rw [F'.bay] at e1; cases e1
  have e2 := F.dr; rw [F'.dr] at e2; cases e2
  have e3 := F.bl; rw [F'.bl] at e3; cases e3
  exact h
 have P2 : ∀ {R : V → Mem → Prop}, R (.i (zt5 s o x d)) (WO C s o y d b (zjw s.js.length o) (zam (oK o.who) s.p)) → PRun Tryz.prog 85 (WO C s o y d b (zjw s.js.length o) (zam (oK o.who) s.p)) [.r 0 0, .r 8 0] R := fun {R} h =>
  wfits_S hw hl (by omega) hk hx ⟨hxl.1, hxl.2.1⟩ h
 by_cases hft : zt5 s o x d = 0
 rotate_left
 · obtain ⟨ek, hek⟩ := zwj (fitE_nn s o x d) hft
   refine S29e2 (ek := ek) (n_place := y.place) (n_make := y.make) (n_lab := y.lab) (n_rate := y.rate) (e_id := d.id) (e_own := d.own) (e_div := d.div) (e_place := d.place) (e_blue := d.blue) (e_me := d.me) (e_te := d.te) (e_runs := d.runs) (e_busy := d.busy) (b_makes := b.makes) (b_per := b.per) (b_time := b.time) (b_needs := b.needs.map eS) (b_copy := b.copy) (b_study := b.study) (b_most := b.most) (money := zam (oK o.who) s.p) ⟨?_, ?_, k1 _ (by rw [← hek]; exact hft) (by rw [hE, if_pos hft, hek])⟩
   · rw [eid]; exact P1 ⟨rfl, rfl⟩
   · rw [eid]; exact PRun.drop 8 (P2 ⟨by rw [hek], rfl⟩)
 rw [hft] at P2
 -- what it needs
 have hnew : (zjw s.js.length o).needs = [] := rfl
 by_cases hpe : zcy b d o = 0
 rotate_left
 · obtain ⟨ek, hek⟩ := zwj (planE_nn b d o) hpe
   refine S29e3 (ek := ek) (n_place := y.place) (n_make := y.make) (n_lab := y.lab) (n_rate := y.rate) (e_id := d.id) (e_own := d.own) (e_div := d.div) (e_place := d.place) (e_blue := d.blue) (e_me := d.me) (e_te := d.te) (e_runs := d.runs) (e_busy := d.busy) (b_makes := b.makes) (b_per := b.per) (b_time := b.time) (b_needs := b.needs.map eS) (b_copy := b.copy) (b_study := b.study) (b_most := b.most) (money := zam (oK o.who) s.p) ⟨?_, ?_, ?_, k1 _ (by rw [← hek]; exact hpe) (by rw [hE, if_neg (fun h => h hft), if_pos hpe, hek])⟩
   · rw [eid]; exact P1 ⟨rfl, rfl⟩
   · rw [eid]; exact P2 ⟨rfl, rfl⟩
   · rw [eid]; exact PRun.drop 0 (zwo (j := zjw s.js.length o) hbr (hC.q b (zy4 hib)) hkd hdI.2.2.2.2.1 hdI.2.2.2.2.2.1 hyok.2 hnew (fun j' _ => ⟨by rw [hek], rfl⟩) fun h => absurd h hpe)
 rw [if_neg (fun h => h hft), if_neg (fun h => h hpe)] at hE
 have hfee := znu (y := y) (j := zjw s.js.length o) hyok.2 hpe
 have hJok := jOk_new F hC hp hdd.1 hdd.2 (by
  unfold zt5 at hft
  split at hft
  · cases hft
  · omega) (by omega) hpe
 generalize hj : zd9 y b d o (zjw s.js.length o) = j at *
 have hjid : j.id = (s.js.length : Int) + 1 := by rw [← hj]; rfl
 have hjkind : j.kind = o.kind := by rw [← hj]; rfl
 have hjbay : j.bay = o.bay := by rw [← hj]; rfl
 have hjruns : j.runs = o.runs := by rw [← hj]; rfl
 have hjst : j.st = 1 := by rw [← hj]; rfl
 have hjneeds : j.needs = (zcg b d o).1 := by rw [← hj]; rfl
 have hnd := zlu (zcj hpe).2.1
 rw [← hjneeds] at hnd
 have hndl := zsy hnd.1
 have hrb := (zcj hpe).1
 have hjs : s.js.length < 64 ∧ ¬ (6 ≤ zju o.who s.js ∨ zcm x = false) ∧ d.busy = 0 := by
  unfold zt5 at hft
  split at hft
  · cases hft
  · split at hft
    · cases hft
    · split at hft
      · cases hft
      · exact ⟨by omega, by assumption, by omega⟩
 have hroom : zcm x = true := by
  have := hjs.2.1
  cases h : zcm x with
  | true => rfl
  | false => exact absurd (.inr h) this
 refine S29e0 (n_place := y.place) (n_make := y.make) (n_lab := y.lab) (n_rate := y.rate) (e_id := d.id) (e_own := d.own) (e_div := d.div) (e_place := d.place) (e_blue := d.blue) (e_me := d.me) (e_te := d.te) (e_runs := d.runs) (e_busy := d.busy) (b_makes := b.makes) (b_per := b.per) (b_time := b.time) (b_needs := b.needs.map eS) (b_copy := b.copy) (b_study := b.study) (b_most := b.most) (money := zam (oK o.who) s.p) (t_time := j.time) (t_fee := j.fee) (t_needs := j.needs.map eS) ⟨?_, ?_, ?_, ?_⟩
 · rw [eid]; exact P1 ⟨rfl, rfl⟩
 · rw [eid]; exact P2 ⟨rfl, rfl⟩
 · rw [eid]
   refine zwo (j := zjw s.js.length o) hbr (hC.q b (zy4 hib)) hkd hdI.2.2.2.2.1 hdI.2.2.2.2.2.1 hyok.2 hnew (fun j' h => absurd hpe h) fun _ => ⟨rfl, ?_⟩
   rw [hj]
   subst hj
   rfl
 rw [eid]
 refine cIf (fun hm => k1 6 (by decide) (by rw [hE, if_pos hm])) fun hmoney => ?_
 have howns := F.own; have hdvs := F.div
 have hue : useE d ((s.js.length : Int) + 1) (zbj j) = 0 := by
  have hm : 0 ≤ zbj j ∧ zbj j ≤ 1000 ∧ (d.runs = -1 ∨ zbj j ≤ d.runs) := by
   unfold zbj zca at *
   split
   · rename_i h; rw [hjkind] at h; rw [hjruns]; omega
   · rename_i h; rw [hjkind] at h; omega
  unfold useE
  have hu : zg9 ((s.js.length : Int) + 1) (zbj j) = true := by
   unfold zg9
   rw [inJ_iff.2 ⟨by omega, by omega⟩, inJ_iff.2 ⟨hm.1, hm.2.1⟩]
   rfl
  rw [if_neg (by rw [hu]; decide), if_neg (by have := hjs.2.2; omega), if_neg (by omega)]
 have erow : [U.n ((s.js.length : Int) + 1), .n o.kind, .n o.own, .n o.div, .n o.who, .n o.bay, .n o.draft, .n o.runs, .n o.copies, .n j.time, .n j.fee, .l 2 (j.needs.map eS), .n 1, .n 0, .n 0, .n j.time] = za6 j := by subst hj; rfl
 have ejv : V.a [.i ((s.js.length : Int) + 1), .i o.kind, .i o.own, .i o.div, .i o.who, .i o.bay, .i o.draft, .i o.runs, .i o.copies, .i j.time, .i j.fee, .l 2 (j.needs.map eS), .i 1, .i 0, .i 0, .i j.time] = jV j := by subst hj; rfl
 have hplc := hyok.1
 refine zkr (zyj hcb fun y' ey hy => ?_)
 rw [zli]
 obtain ⟨rfl, rfl⟩ : y' = y ∧ ey = 0 := by
  rcases hy with ⟨h, rfl⟩ | ⟨h, -⟩
  · rw [F.bay] at h; cases h; exact ⟨rfl, rfl⟩
  · rw [F.bay] at h; cases h
 refine lock2_B (fr := ⟨o.own, o.div, y'.place, 1⟩) hb (by omega) ⟨by omega, by omega⟩ (by omega) (isB_of (by omega) (by omega) hplc) hnd.1 (fun hex => ?_) fun hlie l1 htk hl1 hbi hbln => ?_
 · rw [zds]; refine cNe (fun _ => k1 7 (by decide) (by
    rw [hE, if_neg hmoney, if_neg fun hall => ?_]
    obtain ⟨t, ht, hlt⟩ := hex
    have := of_decide_eq_true (z0d.1 hall t ht)
    omega)) fun h => absurd h (by decide)
 rw [zds]
 refine cNe (fun h => absurd rfl h) fun _ => movP_S hp (by omega) fun e hpi hpn => ?_
 rw [post_Ip2]
 intro kU hkU
 have hbln2 : (zie (vK ((s.js.length : Int) + 1) y'.place) j.needs l1).length ≤ s.b.length + 2 * j.needs.length := hbln
 have hF : InsF C s now o y' d b k x j (movP o.who 0 j.fee s.p) (zie (vK ((s.js.length : Int) + 1) y'.place) j.needs l1) :=
  ⟨F, by unfold jAt; rw [hjbay, hjkind]; exact hk, hx, hjs.1, hroom, hjs.2.2, hpe, hj.symm, by omega, hlie, rfl, hpi, hpn, ⟨l1, htk, hl1, by rw [hjid]⟩, hbi, by omega, hJok, hft⟩
 have fin : kU ((s.ds.set i (zug d ((s.js.length : Int) + 1) (zbj j))).map eD) s.g := by
  refine hkU _ _ ⟨?_, ?_⟩
  · unfold zan; simp; omega
  rw [erow, ejv]
  have e1 : s.js.map za6 ++ [za6 j] = (s.js ++ [j]).map za6 := by rw [zzr]; rfl
  rw [e1]
  have hjE : jE 1 j now = 0 := jE_zero.2 ⟨hJok, inJ_iff.2 F.t, by unfold zl2; rw [hjst]; rfl⟩
  refine asks_S (C := C) (s := insW s i d j (movP o.who 0 j.fee s.p) (zie (vK ((s.js.length : Int) + 1) y'.place) j.needs l1)) (i := s.js.length) (k := k) (x := x) ?_ ?_ ?_ hjid hjE hT hn (by rw [hjbay]; omega) (by unfold jAt; rw [hjbay, hjkind]; exact hk) hx (by rw [hjid]; exact hfresh) ?_ fun s' hs' => ?_
  · intro q hq
    rcases zy6.1 hq with hq | hq
    · exact hw q hq
    · rw [z0s.1 hq]; omega
  · show (s.js ++ [j]).length ≤ 1000
    rw [zzl, List.length_singleton]
    omega
  · show (s.js ++ [j])[s.js.length]? = some j
    simp
  · unfold zcm at hroom
    simp only [z1p, zyy, decide_eq_true_eq] at hroom
    have := hxl.2.2
    omega
  · have h := k2 i y' d b k x j _ _ s' hi hdn hF hs'
    rw [zig, zgi]
    exact ⟨h, h⟩
 refine cEq (fun hk1 => ?_) fun hk1 => ?_
 · have em : zbj j = o.runs := by unfold zbj; rw [hjkind, if_pos hk1, hjruns]
   rw [em] at hue fin
   refine use_D hd (by omega) (fun d hd => (hdo d hd).1) (fun h => by omega) (fun i' d' hi' hdn' h => ?_) fun i' d' hi' hdn' h => ?_
   · obtain rfl : i' = i := by omega
     rw [hi] at hi'; cases hi'
     exact absurd hue h
   · obtain rfl : i' = i := by omega
     rw [hi] at hi'; cases hi'
     rw [zdr]
     exact fin
 · have em : zbj j = 0 := by unfold zbj; rw [hjkind, if_neg hk1]
   rw [em] at hue fin
   refine use_D hd (by omega) (fun d hd => (hdo d hd).1) (fun h => by omega) (fun i' d' hi' hdn' h => ?_) fun i' d' hi' hdn' h => ?_
   · obtain rfl : i' = i := by omega
     rw [hi] at hi'; cases hi'
     exact absurd hue h
   · obtain rfl : i' = i := by omega
     rw [hi] at hi'; cases hi'
     rw [zdr]
     exact fin
end
end
section
set_option maxRecDepth 1000000
variable {Q : V → Mem → Prop}
structure WB (C : Kt) (s : Wk) : Prop where
 cat : KtOk C
 pinv : PInv s.p 562
 plen : s.p.length ≤ 700000
 binv : BInv s.b
 blen : s.b.length ≤ 700000
 dnum : DNum s.ds
 dlen : s.ds.length ≤ 1000
 glen : s.g = (s.ds.length : Int)
 dok : ∀ d ∈ s.ds, isD d = true ∧ 1 ≤ d.own
 jok : ∀ (i : Nat) (j : Jb), s.js[i]? = some j → jOk j = true ∧ j.id = (i : Int) + 1 ∧ 1 ≤ j.bay ∧ j.bay ≤ 2
 jlen : s.js.length ≤ 64
 l4 : s.l.length = 4
 lsz : ∀ x ∈ s.l, x.run.length ≤ 1000 ∧ x.wait.length ≤ 1000 ∧ (x.run.length : Int) ≤ x.n
 ids : s.T.Pairwise fun a b => a.2.1 ≠ b.2.1
 Tlen : (s.T.length : Int) < 256
 nx : s.next ≠ 1099511627776
theorem ziz {j : Jb} (h : jOk j = true) : ((1 ≤ j.id ∧ j.id ≤ 1099511627776) ∧ (1 ≤ j.own ∧ j.own ≤ 1099511627776) ∧ (1 ≤ j.who ∧ j.who ≤ 1099511627776) ∧ (1 ≤ j.draft ∧ j.draft ≤ 1099511627776) ∧ (1 ≤ j.time ∧ j.time ≤ 1099511627776)) ∧
 ((1 ≤ j.kind ∧ j.kind ≤ 4) ∧ (0 ≤ j.div ∧ j.div ≤ 4) ∧ (1 ≤ j.runs ∧ j.runs ≤ 1000)) ∧ jCop j = true ∧ zfe j.needs 32 = 0 := by
 unfold jOk zo3 jNum zqe at h
 simp only [zyy, inJ_iff, beq_iff_eq] at h
 obtain ⟨⟨h1, h2, h3, h4, h5, h6, h7, h8, h9⟩, -⟩ := h
 exact ⟨⟨h1, h2, h3, h5, h6⟩, ⟨h7.1, h7.2.1, h7.2.2.1⟩, h8, h9.1⟩
theorem zdi {j : Jb} (h : jOk j = true) : j.needs.length ≤ 8 := zsy (ziz h).2.2.2
theorem zvj {js : List Jb} (j : Jb) : zzb (js.map za6) i (za6 j) = (js.set i j).map za6 := by rw [z1b]
section
variable {C : Kt} {s : Wk} {now id : Int}
theorem WB.sh (B : WB C s) : shJ s.js := fun j hj => by
 obtain ⟨i, hi⟩ := zz4.1 hj
 have := zdi (B.jok i j hi).1
 omega
theorem WB.shs (B : WB C s) {j : Jb} (h : j.needs.length ≤ 8) : shJ (s.js.set i j) := fun x hx => by
 rcases z13 hx with hx | rfl
 · exact B.sh x hx
 · omega
theorem ztz {w : Nat} {j : Jb} (h : jE w j now = 0) : jR w j now = jDo w j now := by unfold jR; rw [if_pos h]
def ztj (s : Wk) (w : Nat) (now id : Int) : Int := match at1 s.js id with
 | some j => jE w j now
 | none => 3
def zur (s : Wk) (now id : Int) : Int := match at1 s.js id with
 | some j => if inJ now 0 1099511627776 = false then 1 else jE 6 j 0
 | none => 3
theorem zws {w : Nat} (h : id < 1 ∨ (s.js.length : Int) < id) : ztj s w now id = 3 := by unfold ztj; rw [zby h]
theorem zil {w : Nat} {j : Jb} (hg : s.js[i]? = some j) (hid : id = (i : Int) + 1) : ztj s w now id = jE w j now := by unfold ztj; rw [zal hg hid]
theorem pause_S (B : WB C s) (hL : ∀ (i : Nat) (j : Jb), s.js[i]? = some j → id = (i : Int) + 1 → jE 2 j now = 0 → LvOk { s with js := s.js.set i (jDo 2 j now) } id now)
 (k1 : ∀ e, e ≠ 0 → ztj s 2 now id = e → Q (.i e) (W9 C s)) (k2 : ∀ (i : Nat) (j : Jb) (s' : Wk), s.js[i]? = some j → id = (i : Int) + 1 → jE 2 j now = 0 → Lvs { s with js := s.js.set i (jDo 2 j now) } id now s' → Q (.i 0) (W9 C s')) :
 PRun Tryz.prog 35 (W8 C s) [.r 0 0, .i now, .i id] Q := by
 have hjl := B.jlen
 have hlen : ((s.js.map za6).length : Int) = (s.js.length : Int) := by rw [zy2]
 refine S35 (zqc B.sh (by omega) (fun hh => ?_) fun i j hg hid => ?_)
 · rw [zcb]
   exact cNe (fun _ => cEq (fun h => absurd h (by decide)) fun _ => k1 3 (by decide) (zws hh)) fun h => absurd h (by decide)
 rw [zcb]
 have hlt := (zyz.1 hg).1
 have hn8 := zdi (B.jok i j hg).1
 refine cNe (fun h => absurd rfl h) fun _ => jpause_S (j := j) (by omega) ?_
 rw [zgg]
 by_cases he : jE 2 j now = 0
 rotate_left
 · exact cEq (fun h => absurd h he) fun _ => k1 _ he (zil hg hid)
 rw [ztz he, he]
 refine cEq (fun _ => ?_) fun h => absurd rfl h
 rw [hlen, w64 (x := id - 1) (by omega) (by omega), show (id - 1).toNat = i by omega, zvj (jDo 2 j now)]
 refine ⟨by omega, by omega, zse (s := { s with js := s.js.set i (jDo 2 j now) }) (B.shs hn8) (by show (s.js.set i (jDo 2 j now)).length ≤ 1000; rw [zzz]; omega) (by omega) B.ids B.Tlen B.nx (hL i j hg hid he) fun s' hs' => ?_⟩
 rw [zgi]
 exact k2 i j s' hg hid he hs'
theorem fire_S (B : WB C s) (hL : ∀ (i : Nat) (j : Jb), s.js[i]? = some j → id = (i : Int) + 1 → jE 4 j now = 0 → LvOk { s with js := s.js.set i (jDo 4 j now) } id now)
 (k1 : ∀ e, e ≠ 0 → (∀ (i : Nat) (j : Jb), s.js[i]? = some j → id = (i : Int) + 1 → jE 4 j now ≠ 0) → Q (.i e) (W9 C s)) (k2 : ∀ (i : Nat) (j : Jb) (s' : Wk), s.js[i]? = some j → id = (i : Int) + 1 → jE 4 j now = 0 → Lvs { s with js := s.js.set i (jDo 4 j now) } id now s' → Q (.i 0) (W9 C { s' with Lg := zml s'.Lg (now, 1, id, 4) })) :
 PRun Tryz.prog 40 (W8 C s) [.r 0 0, .i now, .i id] Q := by
 have hjl := B.jlen
 refine S40 (zqc B.sh (by omega) (fun hh => ?_) fun i j hg hid => ?_)
 · rw [zcb]
   refine cNe (fun _ => cEq (fun h => absurd h (by decide)) fun _ => k1 3 (by decide) fun i j hg hid => ?_) fun h => absurd h (by decide)
   have := (zyz.1 hg).1
   omega
 rw [zcb]
 have hlt := (zyz.1 hg).1
 have hn8 := zdi (B.jok i j hg).1
 have hji := (B.jok i j hg).2.1
 refine cNe (fun h => absurd rfl h) fun _ => zxf (j := j) (by omega) ?_
 rw [zgg]
 by_cases he : jE 4 j now = 0
 rotate_left
 · refine cEq (fun h => absurd h he) fun _ => k1 _ he fun i' j' hg' hid' => ?_
   obtain rfl : i' = i := by omega
   rw [hg] at hg'; cases hg'
   exact he
 rw [ztz he, he]
 refine cEq (fun _ => ?_) fun h => absurd rfl h
 have hid2 : (jDo 4 j now).id = id := by show j.id = id; omega
 refine ends_S (i := i) (j := jDo 4 j now) (B.shs hn8) (by omega) hlt (by show j.id = (i : Int) + 1; omega) B.ids B.Tlen B.nx (by rw [hid2]; exact hL i j hg hid he) fun s' hs' => ?_
 rw [zgi]
 rw [hid2] at hs' ⊢
 exact k2 i j s' hg hid he hs'
def zdw (ds : List Dr) (id job runs : Int) : List Dr := match at1 ds id with
 | some d => if zt4 d job runs = 0 then ds.set (id - 1).toNat (zom d runs) else ds
 | none => ds
theorem zqo {g job : Int} (hd : DNum ds) (hl : ds.length ≤ 100000) (ho : ∀ d ∈ ds, isD d = true) (K : ∀ e, Q (.i e) [drB (zdw ds id job runs) g]) : PRun Tryz.prog 97 [drB ds g] [.r 0 0, .i id, .i job, .i runs] Q := by
 unfold zdw at K
 refine free_D hd hl ho (fun h => ?_) (fun i d hg hid h => ?_) fun i d hg hid h => ?_
 · rw [zby h] at K; exact K _
 · rw [zal hg hid] at K; simp only at K; rw [if_neg h] at K; exact K _
 · rw [zal hg hid] at K; simp only at K; rw [if_pos h, show (id - 1).toNat = i by omega] at K; exact K _
def zbi (C : Kt) (j : Jb) : Int := match at1 C.bays j.bay with
 | some y => y.place
 | none => 0
theorem bayJ_S (B : WB C s) {j : Jb} (hg : s.js[i]? = some j) (K : ∀ y : Yb, y.place = zbi C j → (1 ≤ y.place ∧ y.place ≤ 8) → Q (.t [yVb y, .i 0]) []) : PRun Tryz.prog 180 [] [ctV C, .i j.bay] Q := by
 have h2 := B.cat.bays
 have hb := (B.jok i j hg).2.2
 refine zyj (by omega) fun y e hy => ?_
 rcases hy with ⟨h, rfl⟩ | ⟨h, -⟩
 · obtain ⟨i, hi, -⟩ := zb8 h
   exact K y (by unfold zbi; rw [h]) (B.cat.bay y (zy4 hi)).1
 · unfold at1 at h
   rw [if_pos hb.1] at h
   have := z24.1 h
   omega
def zj3 (C : Kt) (j : Jb) (b : Tb) : Tb := zie ⟨j.own, j.div, zbi C j, 1⟩ (zg6 (vK j.id (zbi C j)) b) (rmv (vK j.id (zbi C j)) b)
abbrev canW (C : Kt) (s : Wk) (i : Nat) (j : Jb) : Wk := { s with b := zj3 C j s.b, ds := zdw s.ds j.draft j.id (zbj j), js := s.js.set i (jDo 6 j 0) }
theorem zya (B : WB C s) (hL : ∀ (i : Nat) (j : Jb), s.js[i]? = some j → id = (i : Int) + 1 → jE 6 j 0 = 0 → 0 ≤ now ∧ now ≤ 1099511627776 → LvOk { s with js := s.js.set i (jDo 6 j 0) } id now)
 (k1 : ∀ e, e ≠ 0 → zur s now id = e → Q (.i e) (W9 C s)) (k2 : ∀ (i : Nat) (j : Jb) (s' : Wk), s.js[i]? = some j → id = (i : Int) + 1 → jE 6 j 0 = 0 → 0 ≤ now ∧ now ≤ 1099511627776 → BInv (zj3 C j s.b) → (zj3 C j s.b).length ≤ s.b.length → Lvs (canW C s i j) id now s' → Q (.i 0) (W9 C { s' with Lg := zml s'.Lg (now, 1, id, 6) })) :
 PRun Tryz.prog 37 (W8 C s) [.r 0 0, .i now, .i id] Q := by
 have hjl := B.jlen
 have hdl := B.dlen
 have hbl := B.blen
 refine S37 (zqc B.sh (by omega) (fun hh => ?_) fun i j hg hid => ?_)
 · rw [zcb]
   exact cNe (fun _ => cNe (fun _ => k1 3 (by decide) (by unfold zur; rw [zby hh])) fun h => absurd h (by decide)) fun h => absurd h (by decide)
 rw [zcb]
 have hlt := (zyz.1 hg).1
 have hjo := B.jok i j hg
 have hn8 := zdi hjo.1
 have hfx := ziz hjo.1
 refine cNe (fun h => absurd rfl h) fun _ => zmn (fun ht => k1 1 (by decide) (by unfold zur; rw [zal hg hid]; simp only; rw [if_pos ht])) fun ht => zxg (j := j) (by omega) ?_
 have hcE : zur s now id = jE 6 j 0 := by unfold zur; rw [zal hg hid]; simp only; rw [if_neg (by rw [ht]; simp)]
 have ht := inJ_iff.1 ht
 rw [zgg]
 by_cases he : jE 6 j 0 = 0
 rotate_left
 · exact cNe (fun _ => k1 _ he hcE) fun h => absurd h he
 rw [ztz he, he]
 refine cNe (fun h => absurd rfl h) fun _ => zkr (bayJ_S B (j := j) hg fun y hy hpl => ?_)
 rw [zli]
 have hP0 := zrr (x := vK j.id y.place) (to := ⟨j.own, j.div, y.place, 1⟩) B.binv
 have hx : isB (bin ⟨j.own, j.div, y.place, 1⟩ 1) = true := isB_of (by omega) (by omega) hpl
 have hres := zrq hx hP0
 rw [show id = j.id by omega]
 refine zv6 (to := ⟨j.own, j.div, y.place, 1⟩) B.binv (by omega) ⟨by omega, by omega⟩ hpl rfl hx ?_
 rw [zds]
 rw [hy] at hres ⊢
 intro kF hkF
 have hid2 : (jDo 6 j 0).id = id := by show j.id = id; omega
 have eid : j.id = id := by omega
 have fin : kF ((zdw s.ds j.draft j.id (zbj j)).map eD) s.g := by
  refine hkF _ _ (ends_S (C := C) (s := { s with b := zj3 C j s.b, ds := zdw s.ds j.draft j.id (zbj j) }) (i := i) (j := jDo 6 j 0) (B.shs hn8) (by show s.js.length ≤ 1000; omega) hlt (by show j.id = (i : Int) + 1; omega) B.ids B.Tlen B.nx (by rw [hid2]; exact hL i j hg hid he ht) fun s' hs' => ?_)
  rw [zgi]
  rw [hid2] at hs' ⊢
  exact k2 i j s' hg hid he ht hres.1 hres.2 hs'
 have hdo : ∀ d ∈ s.ds, isD d = true := fun d hd => (B.dok d hd).1
 refine cEq (fun hk => ?_) fun hk => ?_
 · have hk : j.kind = 1 := hk
   have em : zbj j = j.runs := by unfold zbj; rw [if_pos hk]
   rw [em] at fin
   refine zqo B.dnum (by omega) hdo fun e => ?_
   rw [zdr]; exact fin
 · have hk : j.kind ≠ 1 := hk
   have em : zbj j = 0 := by unfold zbj; rw [if_neg hk]
   rw [em] at fin
   refine zqo B.dnum (by omega) hdo fun e => ?_
   rw [zdr]; exact fin
end
end
section
set_option maxRecDepth 1000000
variable {Q : V → Mem → Prop}
theorem zxi {j : Jb} (h : zl2 3 j now = true) : j.st = 3 := by simpa [zl2] using h
theorem zxh {j : Jb} (h : jE 3 j 0 = 0) : jOk (jDo 3 j 0) = true := by
 obtain ⟨h1, -, h3⟩ := jE_zero.1 h
 have h3 := zxi h3
 unfold jOk at h1 ⊢
 rw [zyy] at h1 ⊢
 refine ⟨h1.1, ?_⟩
 have h2 := h1.2
 unfold jSt at h2 ⊢
 rw [if_pos (.inr h3)] at h2
 rw [if_pos (.inl rfl)]
 exact h2
theorem jE_res {j : Jb} (h : jE 3 j 0 = 0) (ht : 0 ≤ now ∧ now ≤ 1099511627776) : jE 1 (jDo 3 j 0) now = 0 := jE_zero.2 ⟨zxh h, inJ_iff.2 ht, rfl⟩
section
variable {C : Kt} {s : Wk} {now id : Int}
def zv1 (s : Wk) (now id : Int) : Int := match at1 s.js id with
 | some j => if jE 3 j 0 ≠ 0 then jE 3 j 0 else if inJ now 0 1099511627776 = false then 1 else match s.l[(jAt j).toNat]? with
   | some x => if zcm x = true then 0 else 10
   | none => 10
 | none => 3
theorem zfp {j : Jb} (hg : s.js[i]? = some j) (hid : id = (i : Int) + 1) : zv1 s now id = if jE 3 j 0 ≠ 0 then jE 3 j 0 else if inJ now 0 1099511627776 = false then 1 else match s.l[(jAt j).toNat]? with
 | some x => if zcm x = true then 0 else 10
 | none => 10 := by unfold zv1; rw [zal hg hid]
theorem resume_S (B : WB C s) (hno : ∀ (i : Nat) (j : Jb), s.js[i]? = some j → id = (i : Int) + 1 → j.st = 3 → ∀ x ∈ s.l, id ∉ x.run ∧ id ∉ x.wait)
 (k1 : ∀ e, e ≠ 0 → zv1 s now id = e → Q (.i e) (W9 C s)) (k2 : ∀ (i : Nat) (j : Jb) (k : Nat) (x : Sd) (s' : Wk), s.js[i]? = some j → id = (i : Int) + 1 → jE 3 j 0 = 0 → 0 ≤ now ∧ now ≤ 1099511627776 → jAt j = (k : Int) → s.l[k]? = some x → zcm x = true → Asks { s with js := s.js.set i (jDo 3 j 0) } k x i (jDo 3 j 0) now s' → Q (.i 0) (W9 C s')) :
 PRun Tryz.prog 36 (W8 C s) [.r 0 0, .i now, .i id] Q := by
 have hjl := B.jlen
 have hlen : ((s.js.map za6).length : Int) = (s.js.length : Int) := by rw [zy2]
 refine S36 (zqc B.sh (by omega) (fun hh => ?_) fun i j hg hid => ?_)
 · rw [zcb]
   refine cNe (fun _ => ?_) fun h => absurd h (by decide)
   intro kA hkA
   exact cNe (fun _ => k1 3 (by decide) (by unfold zv1; rw [zby hh])) fun h => absurd h (by decide)
 rw [zcb]
 have hlt := (zyz.1 hg).1
 have hjo := B.jok i j hg
 have hn8 := zdi hjo.1
 refine cNe (fun h => absurd rfl h) fun _ => zxe (j := j) (by omega) ?_
 rw [zgg]
 intro kA hkA
 by_cases he : jE 3 j 0 = 0
 rotate_left
 · exact cNe (fun _ => k1 _ he (by rw [zfp hg hid, if_pos he])) fun h => absurd h he
 rw [he]
 refine cNe (fun h => absurd rfl h) fun _ => ?_
 intro kB hkB
 obtain ⟨k, hk⟩ : ∃ k : Nat, jAt j = (k : Int) := ⟨(jAt j).toNat, by unfold jAt; split <;> omega⟩
 have hk4 : k < s.l.length := by rw [B.l4]; unfold jAt at hk; split at hk <;> omega
 have hx := zy0 hk4
 generalize s.l[k] = x at hx
 have hxl := B.lsz x (zy4 hx)
 have hrE : 0 ≤ now ∧ now ≤ 1099511627776 → zcm x = false → zv1 s now id = 10 := fun ht hr => by rw [zfp hg hid, if_neg (fun h => h he), if_neg (by rw [inJ_iff.2 ht]; simp), show (jAt j).toNat = k by omega, hx]; simp only; rw [if_neg (by rw [hr]; simp)]
 have hrT : ¬ (0 ≤ now ∧ now ≤ 1099511627776) → zv1 s now id = 1 := fun ht => by
  have : inJ now 0 1099511627776 = false := by cases h : inJ now 0 1099511627776 with | false => rfl | true => exact absurd (inJ_iff.1 h) ht
  rw [zfp hg hid, if_neg (fun h => h he), if_pos this]
 have fin : 0 ≤ now ∧ now ≤ 1099511627776 → zcm x = true → kA (Ob.of (zqw s.l)) := fun ht hr => by
  refine hkA _ ?_
  rw [ztz he]
  rw [hlen, w64 (x := id - 1) (by omega) (by omega), show (id - 1).toNat = i by omega, zvj (jDo 3 j 0)]
  refine ⟨by omega, by omega, asks_S (C := C) (s := { s with js := s.js.set i (jDo 3 j 0) }) (i := i) (k := k) (j := jDo 3 j 0) (x := x) (B.shs hn8) (by show (s.js.set i (jDo 3 j 0)).length ≤ 1000; rw [zzz]; omega) (by show (s.js.set i (jDo 3 j 0))[i]? = _; rw [zz3 hlt]) hjo.2.1 (jE_res he ht) B.Tlen B.nx hjo.2.2 hk hx ?_ ?_ fun s' hs' => ?_⟩
  · have h3 := zxi (jE_zero.1 he).2.2
    have eid : (jDo 3 j 0).id = id := by show j.id = id; omega
    rw [eid]
    exact hno i j hg hid h3
  · unfold zcm at hr
    simp only [z1p, zyy, decide_eq_true_eq] at hr
    omega
  · rw [zig, zgi]
    have h := k2 i j k x s' hg hid he ht hk hx hr hs'
    exact ⟨h, h⟩
 have main : 0 ≤ now ∧ now ≤ 1099511627776 → kB false := fun ht => by
  refine hkB false (zvh ?_)
  rw [zaw, ztz he]
  refine free_S (k := k) (s := x) hjo.2.2 (by show 0 ≤ (if j.kind = 1 then (0 : Int) else 1) ∧ (if j.kind = 1 then (0 : Int) else 1) ≤ 1; split <;> omega) hk hx ?_
  rw [zfq]
  refine cNe (fun h => absurd rfl h) fun _ => cIf (fun h => ?_) fun h => zw6 ?_
  · exact zhp (cEq (fun _ => fin ht (by unfold zcm; rw [decide_eq_true (by omega)]; rfl)) fun h => absurd rfl h)
  · rw [zru]
    have hb := hjo.2.2
    unfold jAt at hk
    rw [show (jDo 3 j 0).bay = j.bay from rfl, show (jDo 3 j 0).kind = j.kind from rfl]
    rw [w64 (x := j.bay - 1) (by omega) (by omega), w64 (x := 2 * (j.bay - 1)) (by omega) (by omega), w64 (x := 2 * (j.bay - 1) + _) (by split <;> omega) (by split <;> omega), hk]
    rw [zah (r := lnR x) (by omega) (by rw [zzm, zy5, hx]; rfl)]
    simp only [lnR, ug0, ugs, dL_l]
    have hr1 : ((x.run.map eI).length : Int) = (x.run.length : Int) := by rw [zy2]
    have hr2 : ((x.wait.map eI).length : Int) = (x.wait.length : Int) := by rw [zy2]
    rw [hr1, hr2]
    exact cIf (fun h3 => zhp (cIf (fun h4 => fin ht (by unfold zcm; rw [decide_eq_true (show 0 < x.run.length by omega), decide_eq_true (show x.wait.length < 8 by omega)]; simp)) fun h4 => k1 10 (by decide) (hrE ht (by unfold zcm; rw [decide_eq_false (show ¬ 0 < x.n - (x.run.length : Int) by omega), decide_eq_false (show ¬ x.wait.length < 8 by omega)]; simp)))) fun h3 => k1 10 (by decide) (hrE ht (by unfold zcm; rw [decide_eq_false (show ¬ 0 < x.n - (x.run.length : Int) by omega), decide_eq_false (show ¬ 0 < x.run.length by omega)]; simp))
 refine cIf (fun h1 => ?_) fun h1 => hkB true (k1 1 (by decide) (hrT fun h => h1 h.1))
 by_cases h2 : now ≤ 1099511627776
 · rw [decide_eq_true h2]; exact main ⟨h1, h2⟩
 · rw [decide_eq_false h2]; exact hkB true (k1 1 (by decide) (hrT fun h => h2 h.2))
inductive Gives (C : Kt) (s : Wk) (j : Jb) (d : Dr) (b : Bl) : Int → Wk → Prop
 | over : j.kind = 1 → 1125899906842624 < tyQ b.makes s.b + b.per * j.runs → Gives C s j d b 5 s
 | made : j.kind = 1 → tyQ b.makes s.b + b.per * j.runs ≤ 1125899906842624 → BInv (zez (bin ⟨j.own, j.div, zbi C j, 1⟩ b.makes) (zam (bin ⟨j.own, j.div, zbi C j, 1⟩ b.makes) (rmv (vK j.id (zbi C j)) s.b) + b.per * j.runs) (rmv (vK j.id (zbi C j)) s.b)) →
  Gives C s j d b 0 { s with b := zez (bin ⟨j.own, j.div, zbi C j, 1⟩ b.makes) (zam (bin ⟨j.own, j.div, zbi C j, 1⟩ b.makes) (rmv (vK j.id (zbi C j)) s.b) + b.per * j.runs) (rmv (vK j.id (zbi C j)) s.b) }
 | me : j.kind = 2 → Gives C s j d b 0 { s with ds := if zcp d j.runs 0 = 0 then s.ds.set (j.draft - 1).toNat (ze6 d j.runs 0) else s.ds }
 | te : j.kind = 3 → Gives C s j d b 0 { s with ds := if zcp d 0 j.runs = 0 then s.ds.set (j.draft - 1).toNat (ze6 d 0 j.runs) else s.ds }
 | full : j.kind = 4 → zx6 s.ds s.g d j.copies j.runs ≠ 0 → Gives C s j d b (zx6 s.ds s.g d j.copies j.runs) s
 | cop : j.kind = 4 → zx6 s.ds s.g d j.copies j.runs = 0 → Gives C s j d b 0 { s with ds := s.ds ++ cpD d j.runs s.g j.copies.toNat, g := s.g + j.copies }
theorem wadd_S {a b : Int} (ha : 0 ≤ a) (hb : 0 ≤ b) (h : a + b ≤ 9223372036854775807) (k : Q (.t [.i (a + b), .i 0]) []) : PRun Tryz.prog 173 [] [.i a, .i b] Q := by
 refine S173 ?_
 rw [w64 (x := a + b) (by omega) (by omega), decide_eq_true (show a ≥ 0 from ha), decide_eq_true (show b ≥ 0 from hb), decide_eq_true (show a + b ≥ 0 by omega)]
 exact k
theorem post_sI {F : Int → Int → Int → Prop} {a b : Int} : post [.agg [.i .i64, .i .i64], .I] [] F (.t [.a [.i a, .i b], .i e]) [] = F a b e := rfl
theorem zwf {F : List (List U) → Int → List (List U) → List Int → Prop} {l : List (List U)} {b : Tb} : post [.L 2, .I] [.c [.l 5, .n 33]] F (.t [.l 2 l, .i e]) [bK b] = F l e (b.map eT) (zfl b) := rfl
theorem zrt {F : List (List U) → Int → List (List U) → Int → Prop} {g : Int} {l : List (List U)} : post [.L 1, .I] [.c [.l 13, .i .i64]] F (.t [.l 1 l, .i e]) [drB ds g] = F l e (ds.map eD) g := rfl
theorem gives_S (B : WB C s) {j j' : Jb} (hg : s.js[i]? = some j) (hj' : j' = jDo 5 j 0) (hd : at1 s.ds j.draft = some d) (hb : at1 C.bl d.blue = some b) (hbl : zd1 b 32 = 0) (K : ∀ e s', Gives C s j d b e s' → Q (.i e) (W8 C s')) :
 PRun Tryz.prog 96 (W8 C s) [.r 0 0, jV j'] Q := by
 have hdl := B.dlen
 have hbln := B.blen
 have hjl := B.jlen
 have hlt := (zyz.1 hg).1
 have hjo := B.jok i j hg
 have hfx := ziz hjo.1
 have hdo : ∀ d ∈ s.ds, isD d = true := fun d hd => (B.dok d hd).1
 have hok := blueE_ok.1 hbl
 have hq := zec (x := b.per) (y := j.runs) (X := 1048576) (Y := 1000) (by have := hok.per; omega) (by have := hok.per; omega) (by omega) (by omega)
 have hmk := hok.makes
 obtain ⟨ib, hib, hibn⟩ := zb8 hb
 obtain ⟨id, hid, hidn⟩ := zb8 hd
 have hbr := B.cat.rg b (zy4 hib)
 subst hj'
 refine S96 (zkr (get1_S B.dnum (by omega) fun d' e' hd' => ?_))
 rw [zc8]
 obtain ⟨rfl, rfl⟩ : d' = d ∧ e' = 0 := by
  have hd' : (at1 s.ds j.draft = some d' ∧ e' = 0) ∨ (at1 s.ds j.draft = none ∧ e' = 3) := hd'
  rcases hd' with ⟨h, rfl⟩ | ⟨h, -⟩
  · rw [hd] at h; cases h; exact ⟨rfl, rfl⟩
  · rw [hd] at h; cases h
 refine cEq (fun hk => ?_) fun hk1 => cEq (fun hk => ?_) fun hk2 => cEq (fun hk => ?_) fun hk3 => cEq (fun hk => ?_) fun hk4 => ?_
 · have hk : j.kind = 1 := hk
   refine zkr (zyg B.cat.bl fun b' e' hb' => ?_)
   rw [zwc]
   obtain ⟨rfl, rfl⟩ : b' = b ∧ e' = 0 := by
    rcases hb' with ⟨h, rfl⟩ | ⟨h, -⟩
    · rw [hb] at h; cases h; exact ⟨rfl, rfl⟩
    · rw [hb] at h; cases h
   have hmr : zkk b' j.runs = ((b'.makes, b'.per * j.runs), 0) := by
    unfold zkk
    rw [if_pos ⟨hbl, inJ_iff.2 (by omega)⟩]
   refine makes_S hbr ?_
   rw [show (jDo 5 j 0).runs = j.runs from rfl, hmr, post_sI]
   dsimp only
   have htop := B.binv.top b'.makes
   have hnn : 0 ≤ tyQ b'.makes s.b := by
    have h := B.binv.val (bin ⟨0, 0, 0, 0⟩ b'.makes)
    have e : (bin ⟨0, 0, 0, 0⟩ b'.makes).d = b'.makes := rfl
    rw [e] at h
    omega
   refine total_B (fun _ _ => ?_) fun h => by omega
   rw [zds]
   refine wadd_S hnn hq.1 (by omega) ?_
   rw [zb1]
   refine cNe (fun h => absurd rfl h) fun _ => cIf (fun h => K 5 s (.over hk h)) fun h => ?_
   refine zkr (bayJ_S B (j := j) hg fun y hy hpl => ?_)
   rw [zli]
   refine zos (id := j.id) B.binv (by omega) ⟨by omega, by omega⟩ hpl ?_
   rw [zwf]
   have hri := B.binv.rmv (vK j.id y.place)
   have hrl : (rmv (vK j.id y.place) s.b).length ≤ s.b.length := z0b _ _
   have hx : isB (bin ⟨j.own, j.div, y.place, 1⟩ b'.makes) = true := by
    simp only [isB, zyy, decide_eq_true_eq]
    omega
   have htr := zpi (vK j.id y.place) s.b b'.makes
   have hsn := zh5 (d := b'.makes) (L := zg6 (vK j.id y.place) s.b) fun t ht => by
    have := (B.binv.key _ (zlz ht)).2
    simp only at this
    omega
   refine put_B (k := bin ⟨j.own, j.div, y.place, 1⟩ b'.makes) hri (by omega) (fun hc => ?_) (fun _ _ hc => ?_) fun _ _ hc => ?_
   · rcases hc with hc | hc
     · rw [hx] at hc; cases hc
     · omega
   · have hc : 1125899906842624 - tyQ b'.makes (rmv (vK j.id y.place) s.b) < b'.per * j.runs := hc
     omega
   · rw [zds]
     have hv := hri.val (bin ⟨j.own, j.div, y.place, 1⟩ b'.makes)
     have hbi := hri.set (n := b'.per * j.runs) hx (by omega) hc
     rw [hy] at hbi ⊢
     exact K 0 _ (.made hk (by omega) hbi)
 · have hk : j.kind = 2 := hk
   have fin := K 0 _ (.me hk)
   refine zw9 B.dnum (by omega) hdo (fun h => ?_) (fun i1 d1 hg1 hi1 h => ?_) fun i1 d1 hg1 hi1 h => ?_
   · have h : j.draft < 1 ∨ (s.ds.length : Int) < j.draft := h
     rw [zby h] at hd; cases hd
   · obtain rfl : d1 = d' := by have hi1 : j.draft = (i1 : Int) + 1 := hi1; rw [zal hg1 hi1] at hd; cases hd; rfl
     have h : zcp d1 j.runs 0 ≠ 0 := h
     rw [if_neg h] at fin
     rw [zdr]; exact fin
   · obtain rfl : d1 = d' := by have hi1 : j.draft = (i1 : Int) + 1 := hi1; rw [zal hg1 hi1] at hd; cases hd; rfl
     have h : zcp d1 j.runs 0 = 0 := h
     have hi1 : j.draft = (i1 : Int) + 1 := hi1
     rw [if_pos h, show (j.draft - 1).toNat = i1 by omega] at fin
     rw [zdr]; exact fin
 · have hk : j.kind = 3 := hk
   have fin := K 0 _ (.te hk)
   refine zw9 B.dnum (by omega) hdo (fun h => ?_) (fun i1 d1 hg1 hi1 h => ?_) fun i1 d1 hg1 hi1 h => ?_
   · have h : j.draft < 1 ∨ (s.ds.length : Int) < j.draft := h
     rw [zby h] at hd; cases hd
   · obtain rfl : d1 = d' := by have hi1 : j.draft = (i1 : Int) + 1 := hi1; rw [zal hg1 hi1] at hd; cases hd; rfl
     have h : zcp d1 0 j.runs ≠ 0 := h
     rw [if_neg h] at fin
     rw [zdr]; exact fin
   · obtain rfl : d1 = d' := by have hi1 : j.draft = (i1 : Int) + 1 := hi1; rw [zal hg1 hi1] at hd; cases hd; rfl
     have h : zcp d1 0 j.runs = 0 := h
     have hi1 : j.draft = (i1 : Int) + 1 := hi1
     rw [if_pos h, show (j.draft - 1).toNat = i1 by omega] at fin
     rw [zdr]; exact fin
 · have hk : j.kind = 4 := hk
   refine copies_D B.dnum B.glen (by omega) hdo (fun h => ?_) (fun i1 d1 hg1 hi1 h => ?_) fun i1 d1 l hg1 hi1 h => ?_
   · have h : j.draft < 1 ∨ (s.ds.length : Int) < j.draft := h
     rw [zby h] at hd; cases hd
   · obtain rfl : d1 = d' := by have hi1 : j.draft = (i1 : Int) + 1 := hi1; rw [zal hg1 hi1] at hd; cases hd; rfl
     rw [zrt]
     exact K _ _ (.full hk h)
   · obtain rfl : d1 = d' := by have hi1 : j.draft = (i1 : Int) + 1 := hi1; rw [zal hg1 hi1] at hd; cases hd; rfl
     rw [zrt]
     exact K _ _ (.cop hk h)
 · have h1 : j.kind ≠ 1 := hk1
   have h2 : j.kind ≠ 2 := hk2
   have h3 : j.kind ≠ 3 := hk3
   have h4 : j.kind ≠ 4 := hk4
   omega
end
end
section
set_option maxRecDepth 1000000
variable {Q : V → Mem → Prop}
theorem zxa {me te : Int} (h : isD d = true) (h0 : zcp d me te = 0) : isD (ze6 d me te) = true := by
 have h1 := zf0 h
 unfold zcp at h0
 split at h0
 · cases h0
 · rename_i a1
   split at h0
   · cases h0
   · rename_i a2
     unfold isD ze6 at *
     simp only [zyy, inJ_iff] at h ⊢
     omega
theorem cpD_is {d : Dr} {runs g : Int} (h : isD d = true) (hr : 1 ≤ runs ∧ runs ≤ 1000) : ∀ n, ∀ x ∈ cpD d runs g n, isD x = true ∧ x.own = d.own ∧ x.blue = d.blue ∧ x.busy = 0
 | 0, x, hx => by simp [cpD] at hx
 | n + 1, x, hx => by
   simp only [cpD, zy6, z0s] at hx
   rcases hx with hx | rfl
   · exact cpD_is h hr n x hx
   · refine ⟨?_, rfl, rfl, rfl⟩
     unfold isD at *
     simp only [zyy, inJ_iff] at h ⊢
     omega
theorem zx5 {g : Int} {copies : Int} (h : zx6 ds g d copies runs = 0) : (1 ≤ copies ∧ copies ≤ 10) ∧ (1 ≤ runs ∧ runs ≤ 1000) ∧ (ds.length : Int) + copies ≤ 64 := by
 unfold zx6 at h
 split at h
 · cases h
 · rename_i h1
   split at h
   · cases h
   · split at h
     · cases h
     · rename_i h3
       simp only [not_or, z3q, inJ_iff] at h1
       simp only [Classical.not_not] at h3
       exact ⟨h1.1, h1.2, h3.1⟩
structure GivF (s : Wk) (s' : Wk) : Prop where
 p : s'.p = s.p
 T : s'.T = s.T
 next : s'.next = s.next
 Lg : s'.Lg = s.Lg
 l : s'.l = s.l
 js : s'.js = s.js
 dnum : DNum s'.ds
 glen : s'.g = (s'.ds.length : Int)
 dlen : s'.ds.length ≤ s.ds.length ∨ s'.ds.length ≤ 64
 dok : ∀ d' ∈ s'.ds, isD d' = true ∧ ∃ d ∈ s.ds, d'.own = d.own ∧ d'.blue = d.blue
 old : ∀ (n : Int) (d : Dr), at1 s.ds n = some d → ∃ d', at1 s'.ds n = some d' ∧ d'.busy = d.busy
section
variable {C : Kt} {s : Wk} {now id : Int}
theorem zmj {l : List α} {d d' : α} (hd : at1 l n = some d) (m : Int) (x : α) (hx : at1 l m = some x) : at1 (l.set (n - 1).toNat d') m = some (if m = n then d' else x) := by
 obtain ⟨i, hi, rfl⟩ := zb8 hd
 obtain ⟨k, hk, rfl⟩ := zb8 hx
 have h1 := (zyz.1 hi).1
 refine zal (i := k) ?_ rfl
 rw [show ((i : Int) + 1 - 1).toNat = i by omega, List.getElem?_set]
 by_cases e : i = k
 · subst e; rw [if_pos rfl, if_pos h1, if_pos rfl]
 · rw [if_neg e, if_neg (by omega)]; exact hk
theorem zqn (B : WB C s) {j : Jb} (hd : at1 s.ds j.draft = some d) {s' : Wk} (h : Gives C s j d b e s') : GivF s s' ∧ (e ≠ 0 → s' = s) := by
 obtain ⟨i, hi, hin⟩ := zb8 hd
 have hdm := zy4 hi
 have hdo := B.dok d hdm
 have same : GivF s s := ⟨rfl, rfl, rfl, rfl, rfl, rfl, B.dnum, B.glen, .inl (zy9 _), fun x hx => ⟨(B.dok x hx).1, x, hx, rfl, rfl⟩, fun n x hx => ⟨x, hx, rfl⟩⟩
 have lrn : ∀ me te, zcp d me te = 0 → GivF s { s with ds := s.ds.set (j.draft - 1).toNat (ze6 d me te) } := fun me te h0 => by
  have ei : (j.draft - 1).toNat = i := by omega
  rw [ei]
  refine ⟨rfl, rfl, rfl, rfl, rfl, rfl, B.dnum.set hi rfl, by rw [B.glen]; simp, .inl (by simp), fun x hx => ?_, fun n x hx => ?_⟩
  · rcases z13 hx with hx | rfl
    · exact ⟨(B.dok x hx).1, x, hx, rfl, rfl⟩
    · exact ⟨zxa hdo.1 h0, d, hdm, rfl, rfl⟩
  · have := zmj (d' := ze6 d me te) hd n x hx
    rw [ei] at this
    refine ⟨_, this, ?_⟩
    split
    · rename_i e
      subst e
      rw [hd] at hx; cases hx; rfl
    · rfl
 cases h with
 | over => exact ⟨same, fun _ => rfl⟩
 | made h1 h2 h3 => exact ⟨{ same with }, fun h => absurd rfl h⟩
 | me hk =>
   refine ⟨?_, fun h => absurd rfl h⟩
   split
   · rename_i h0; exact lrn _ _ h0
   · exact same
 | te hk =>
   refine ⟨?_, fun h => absurd rfl h⟩
   split
   · rename_i h0; exact lrn _ _ h0
   · exact same
 | full => exact ⟨same, fun _ => rfl⟩
 | cop hk h0 =>
   obtain ⟨c1, c2, c3⟩ := zx5 h0
   have hcl := zmd d j.runs s.g j.copies.toNat
   refine ⟨⟨rfl, rfl, rfl, rfl, rfl, rfl, zqt B.dnum B.glen _, by have := B.glen; simp only [zzl, hcl]; omega, .inr (by simp only [zzl, hcl]; omega), fun x hx => ?_, fun n x hx => ?_⟩, fun h => absurd rfl h⟩
   · rcases zy6.1 hx with hx | hx
     · exact ⟨(B.dok x hx).1, x, hx, rfl, rfl⟩
     · have := cpD_is (g := s.g) hdo.1 c2 j.copies.toNat x hx
       exact ⟨this.1, d, hdm, this.2.1, this.2.2.1⟩
   · obtain ⟨k, hk, rfl⟩ := zb8 hx
     exact ⟨x, zal (i := k) (by rw [zy7 ((zyz.1 hk).1)]; exact hk) rfl, rfl⟩
theorem zoq (B : WB C s) (hdr : ∀ (i : Nat) (j : Jb), s.js[i]? = some j → ∃ d b, at1 s.ds j.draft = some d ∧ at1 C.bl d.blue = some b ∧ zd1 b 32 = 0)
 (k1 : ∀ e, e ≠ 0 → ((at1 s.js id = none ∧ e = 3) ∨ ∃ (i : Nat) (j : Jb), s.js[i]? = some j ∧ id = (i : Int) + 1 ∧ ((jE 5 j 0 ≠ 0 ∧ e = jE 5 j 0) ∨ ∃ d b, jE 5 j 0 = 0 ∧ at1 s.ds j.draft = some d ∧ at1 C.bl d.blue = some b ∧ Gives C s j d b e s)) → Q (.i e) (W9 C s)) (k2 : ∀ (i : Nat) (j : Jb) (d : Dr) (b : Bl) (s' : Wk), s.js[i]? = some j → id = (i : Int) + 1 → jE 5 j 0 = 0 → at1 s.ds j.draft = some d → at1 C.bl d.blue = some b → Gives C s j d b 0 s' → Q (.i 0) (W9 C { s' with ds := zdw s'.ds j.draft id 0, js := s.js.set i (jDo 5 j 0) })) :
 PRun Tryz.prog 31 (W8 C s) [.r 0 0, .i id] Q := by
 have hjl := B.jlen
 have hdl := B.dlen
 have hlen : ((s.js.map za6).length : Int) = (s.js.length : Int) := by rw [zy2]
 refine S31 (zqc B.sh (by omega) (fun hh => ?_) fun i j hg hid => ?_)
 · rw [zcb]
   exact cNe (fun _ => cEq (fun h => absurd h (by decide)) fun _ => k1 3 (by decide) (.inl ⟨zby hh, rfl⟩)) fun h => absurd h (by decide)
 rw [zcb]
 have hlt := (zyz.1 hg).1
 have hjo := B.jok i j hg
 have hn8 := zdi hjo.1
 refine cNe (fun h => absurd rfl h) fun _ => zty (j := j) (by omega) ?_
 rw [zgg]
 by_cases he : jE 5 j 0 = 0
 rotate_left
 · exact cEq (fun h => absurd h he) fun _ => cEq (fun h => absurd h he) fun _ => k1 _ he (.inr ⟨i, j, hg, hid, .inl ⟨he, rfl⟩⟩)
 rw [ztz he, he]
 refine cEq (fun _ => ?_) fun h => absurd rfl h
 obtain ⟨d, b, hd, hb, hbl⟩ := hdr i j hg
 refine gives_S B (j' := jDo 5 j 0) hg rfl hd hb hbl fun e s' hs' => ?_
 have hF := zqn B hd hs'
 have hl1000 : s'.ds.length ≤ 1000 := by rcases hF.1.dlen with h | h <;> omega
 rw [post_I8]
 by_cases he0 : e = 0
 rotate_left
 · refine cEq (fun h => absurd h he0) fun _ => ?_
   have := hF.2 he0
   subst this
   exact k1 _ he0 (.inr ⟨i, j, hg, hid, .inr ⟨d, b, he, hd, hb, hs'⟩⟩)
 subst he0
 refine cEq (fun _ => zqo hF.1.dnum (by omega) (fun x hx => (hF.1.dok x hx).1) fun e => ?_) fun h => absurd rfl h
 rw [zdr]
 have ejs : s'.js = s.js := hF.1.js
 rw [ejs, hlen, w64 (x := id - 1) (by omega) (by omega), show (id - 1).toNat = i by omega, zvj (jDo 5 j 0)]
 exact ⟨by omega, by omega, k2 i j d b s' hg hid he hd hb hs'⟩
end
end
end Go.Proofs.YtacglpinmpncaaaGreat
