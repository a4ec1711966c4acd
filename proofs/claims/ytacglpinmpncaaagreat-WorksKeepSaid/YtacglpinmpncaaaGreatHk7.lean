/- The row of WorksKeep: whatever it is given it returns true, and what it was given reads as it did. -/
import Derived.Test.YtacglpinmpncaaaGreatHk6
import Derived.Test.YtacglpinmpncaaaGreatProg
set_option linter.unusedVariables false
namespace Go.Proofs.YtacglpinmpncaaaGreat
variable {b : Bl} {d : Dr} {e now : Int} {K : Int → Prop} {j j2 : Jb} {P : Jb → Prop} {r : List (List U)} {ds : List Dr} {js : List Jb} {T' : List Tm} {i k : Nat} {o : Od} {x : Sd} {t : Tm}
open _root_.BitVec renaming toNat_and → z31
open _root_.Bool renaming and_eq_false_iff → z16, and_eq_true → zy9
open _root_.Int renaming le_refl → zzw, tdiv_eq_ediv_of_nonneg → z2w, toNat_natCast → zzs
open _root_.Go.IntKind renaming wrap → zy5
open _root_.List renaming all_eq_true → z0o, append_nil → zz7, cons_append → z0g, eq_nil_of_length_eq_zero → z0v, filter_append → z2u, filter_cons_of_neg → z1h, filter_cons_of_pos → z17, filter_eq_self → z2k, find?_eq_none → z2p, getElem?_append_left → zzi, getElem?_eq_getElem → zzb, getElem?_eq_some_iff → zza, getElem?_map → zzg, getElem?_set_ne → zz0, getElem?_set_self → z0f, getElem?_take → z0y, getElem_mem → z1x, length → zy6, length_append → zzx, length_cons → zzr, length_filter_le → z0n, length_map → zzc, length_nil → z1a, length_set → z0b, length_take → zz9, map → zzq, map_append → zz2, map_cons → zzv, map_map → z0k, map_nil → z1m, mem_append → zzh, mem_cons → zze, mem_cons_of_mem → zzy, mem_cons_self → zz1, mem_filter → z0r, mem_iff_getElem? → z0e, mem_map → zz6, mem_of_getElem? → zzf, mem_or_eq_of_mem_set → z2h, mem_singleton → z03, nodup_append → z1c, nodup_cons → z02, not_mem_nil → z07, pairwise_cons → z0h, pairwise_iff_getElem → z1q, pairwise_map → z19, perm_append_comm → z12, perm_middle → z1z, take_append_drop → z0t, take_length → z0m, take_succ_eq_append_getElem → z18
open _root_.Nat renaming le_refl → zzk, le_succ → z0u, lt_or_ge → z01, zero_add → zzo, zero_le → zz3
section
set_option maxRecDepth 1000000
variable {Q : V → Mem → Prop}
theorem zxt (h : zmu 3 j now = true) : j.st = 3 := by simpa [zmu] using h
theorem zxs (h : jE 3 j 0 = 0) : jOk (jDo 3 j 0) = true := by
 obtain ⟨h1, -, h3⟩ := jE_zero.1 h
 have h3 := zxt h3
 unfold jOk at h1 ⊢
 rw [zy9] at h1 ⊢
 refine ⟨h1.1, ?_⟩
 have h2 := h1.2
 unfold jSt at h2 ⊢
 rw [if_pos (.inr h3)] at h2
 rw [if_pos (.inl rfl)]
 exact h2
theorem jE_res (h : jE 3 j 0 = 0) (ht : 0 ≤ now ∧ now ≤ 1099511627776) : jE 1 (jDo 3 j 0) now = 0 := jE_zero.2 ⟨zxs h, inJ_iff.2 ht, rfl⟩
section
variable {C : Kt} {s : Wk} {now id : Int}
def zv9 (s : Wk) (now id : Int) : Int := match at1 s.js id with
 | some j => if jE 3 j 0 ≠ 0 then jE 3 j 0 else if inJ now 0 1099511627776 = false then 1 else match s.l[(jAt j).toNat]? with
   | some x => if zcp x = true then 0 else 10
   | none => 10
 | none => 3
theorem zfs (hg : s.js[i]? = some j) (hid : id = (i : Int) + 1) : zv9 s now id = if jE 3 j 0 ≠ 0 then jE 3 j 0 else if inJ now 0 1099511627776 = false then 1 else match s.l[(jAt j).toNat]? with
 | some x => if zcp x = true then 0 else 10
 | none => 10 := by unfold zv9; rw [zam hg hid]
theorem resume_S (B : WB C s) (hno : ∀ (i : Nat) (j : Jb), s.js[i]? = some j → id = (i : Int) + 1 → j.st = 3 → ∀ x ∈ s.l, id ∉ x.run ∧ id ∉ x.wait)
 (k1 : ∀ e, e ≠ 0 → zv9 s now id = e → Q (.i e) (W9 C s)) (k2 : ∀ (i : Nat) (j : Jb) (k : Nat) (x : Sd) (s' : Wk), s.js[i]? = some j → id = (i : Int) + 1 → jE 3 j 0 = 0 → 0 ≤ now ∧ now ≤ 1099511627776 → jAt j = (k : Int) → s.l[k]? = some x → zcp x = true → Asks { s with js := s.js.set i (jDo 3 j 0) } k x i (jDo 3 j 0) now s' → Q (.i 0) (W9 C s')) :
 PRun Tryz.prog 36 (W8 C s) [.r 0 0, .i now, .i id] Q := by
 have hjl := B.jlen
 have hlen : ((s.js.map za2).length : Int) = (s.js.length : Int) := by rw [zzc]
 refine S36 (zqk B.sh (by omega) (fun hh => ?_) fun i j hg hid => ?_)
 · rw [zce]
   refine cNe (fun _ => ?_) fun h => absurd h (by decide)
   intro kA hkA
   exact cNe (fun _ => k1 3 (by decide) (by unfold zv9; rw [zb1 hh])) fun h => absurd h (by decide)
 rw [zce]
 have hlt := (zza.1 hg).1
 have hjo := B.jok i j hg
 have hn8 := zdl hjo.1
 refine cNe (fun h => absurd rfl h) fun _ => zxp (j := j) (by omega) ?_
 rw [zgi]
 intro kA hkA
 by_cases he : jE 3 j 0 = 0
 rotate_left
 · exact cNe (fun _ => k1 _ he (by rw [zfs hg hid, if_pos he])) fun h => absurd h he
 rw [he]
 refine cNe (fun h => absurd rfl h) fun _ => ?_
 intro kB hkB
 obtain ⟨k, hk⟩ : ∃ k : Nat, jAt j = (k : Int) := ⟨(jAt j).toNat, by unfold jAt; split <;> omega⟩
 have hk4 : k < s.l.length := by rw [B.l4]; unfold jAt at hk; split at hk <;> omega
 have hx := zzb hk4
 generalize s.l[k] = x at hx
 have hxl := B.lsz x (zzf hx)
 have hrE : 0 ≤ now ∧ now ≤ 1099511627776 → zcp x = false → zv9 s now id = 10 := fun ht hr => by rw [zfs hg hid, if_neg (fun h => h he), if_neg (by rw [inJ_iff.2 ht]; simp), show (jAt j).toNat = k by omega, hx]; simp only; rw [if_neg (by rw [hr]; simp)]
 have hrT : ¬ (0 ≤ now ∧ now ≤ 1099511627776) → zv9 s now id = 1 := fun ht => by
  have : inJ now 0 1099511627776 = false := by cases h : inJ now 0 1099511627776 with | false => rfl | true => exact absurd (inJ_iff.1 h) ht
  rw [zfs hg hid, if_neg (fun h => h he), if_pos this]
 have fin : 0 ≤ now ∧ now ≤ 1099511627776 → zcp x = true → kA (Ob.of (zta s.l)) := fun ht hr => by
  refine hkA _ ?_
  rw [zt6 he]
  rw [hlen, w64 (x := id - 1) (by omega) (by omega), show (id - 1).toNat = i by omega, zvr (jDo 3 j 0)]
  refine ⟨by omega, by omega, asks_S (C := C) (s := { s with js := s.js.set i (jDo 3 j 0) }) (i := i) (k := k) (j := jDo 3 j 0) (x := x) (B.shs hn8) (by show (s.js.set i (jDo 3 j 0)).length ≤ 1000; rw [z0b]; omega) (by show (s.js.set i (jDo 3 j 0))[i]? = _; rw [z0f hlt]) hjo.2.1 (jE_res he ht) B.Tlen B.nx hjo.2.2 hk hx ?_ ?_ fun s' hs' => ?_⟩
  · have h3 := zxt (jE_zero.1 he).2.2
    have eid : (jDo 3 j 0).id = id := by show j.id = id; omega
    rw [eid]
    exact hno i j hg hid h3
  · unfold zcp at hr
    simp only [Bool.or_eq_true, zy9, decide_eq_true_eq] at hr
    omega
  · rw [zii, zgk]
    have h := k2 i j k x s' hg hid he ht hk hx hr hs'
    exact ⟨h, h⟩
 have main : 0 ≤ now ∧ now ≤ 1099511627776 → kB false := fun ht => by
  refine hkB false (zvp ?_)
  rw [zaw, zt6 he]
  refine free_S (k := k) (s := x) hjo.2.2 (by show 0 ≤ (if j.kind = 1 then (0 : Int) else 1) ∧ (if j.kind = 1 then (0 : Int) else 1) ≤ 1; split <;> omega) hk hx ?_
  rw [zft]
  refine cNe (fun h => absurd rfl h) fun _ => cIf (fun h => ?_) fun h => zqh ?_
  · exact zfn (cEq (fun _ => fin ht (by unfold zcp; rw [decide_eq_true (by omega)]; rfl)) fun h => absurd rfl h)
  · rw [zr0]
    have hb := hjo.2.2
    unfold jAt at hk
    rw [show (jDo 3 j 0).bay = j.bay from rfl, show (jDo 3 j 0).kind = j.kind from rfl]
    rw [w64 (x := j.bay - 1) (by omega) (by omega), w64 (x := 2 * (j.bay - 1)) (by omega) (by omega), w64 (x := 2 * (j.bay - 1) + _) (by split <;> omega) (by split <;> omega), hk]
    rw [zah (r := lnR x) (by omega) (by rw [zzs, zzg, hx]; rfl)]
    simp only [lnR, ug0, ugs, dL_l]
    have hr1 : ((x.run.map eI).length : Int) = (x.run.length : Int) := by rw [zzc]
    have hr2 : ((x.wait.map eI).length : Int) = (x.wait.length : Int) := by rw [zzc]
    rw [hr1, hr2]
    exact cIf (fun h3 => zfn (cIf (fun h4 => fin ht (by unfold zcp; rw [decide_eq_true (show 0 < x.run.length by omega), decide_eq_true (show x.wait.length < 8 by omega)]; simp)) fun h4 => k1 10 (by decide) (hrE ht (by unfold zcp; rw [decide_eq_false (show ¬ 0 < x.n - (x.run.length : Int) by omega), decide_eq_false (show ¬ x.wait.length < 8 by omega)]; simp)))) fun h3 => k1 10 (by decide) (hrE ht (by unfold zcp; rw [decide_eq_false (show ¬ 0 < x.n - (x.run.length : Int) by omega), decide_eq_false (show ¬ 0 < x.run.length by omega)]; simp))
 refine cIf (fun h1 => ?_) fun h1 => hkB true (k1 1 (by decide) (hrT fun h => h1 h.1))
 by_cases h2 : now ≤ 1099511627776
 · rw [decide_eq_true h2]; exact main ⟨h1, h2⟩
 · rw [decide_eq_false h2]; exact hkB true (k1 1 (by decide) (hrT fun h => h2 h.2))
inductive Gives (C : Kt) (s : Wk) (j : Jb) (d : Dr) (b : Bl) : Int → Wk → Prop
 | over : j.kind = 1 → 1125899906842624 < tyQ b.makes s.b + b.per * j.runs → Gives C s j d b 5 s
 | made : j.kind = 1 → tyQ b.makes s.b + b.per * j.runs ≤ 1125899906842624 → BInv (ze1 (bin ⟨j.own, j.div, zbl C j, 1⟩ b.makes) (zan (bin ⟨j.own, j.div, zbl C j, 1⟩ b.makes) (rmv (vK j.id (zbl C j)) s.b) + b.per * j.runs) (rmv (vK j.id (zbl C j)) s.b)) →
  Gives C s j d b 0 { s with b := ze1 (bin ⟨j.own, j.div, zbl C j, 1⟩ b.makes) (zan (bin ⟨j.own, j.div, zbl C j, 1⟩ b.makes) (rmv (vK j.id (zbl C j)) s.b) + b.per * j.runs) (rmv (vK j.id (zbl C j)) s.b) }
 | me : j.kind = 2 → Gives C s j d b 0 { s with ds := if zcs d j.runs 0 = 0 then s.ds.set (j.draft - 1).toNat (ze8 d j.runs 0) else s.ds }
 | te : j.kind = 3 → Gives C s j d b 0 { s with ds := if zcs d 0 j.runs = 0 then s.ds.set (j.draft - 1).toNat (ze8 d 0 j.runs) else s.ds }
 | full : j.kind = 4 → zyh s.ds s.g d j.copies j.runs ≠ 0 → Gives C s j d b (zyh s.ds s.g d j.copies j.runs) s
 | cop : j.kind = 4 → zyh s.ds s.g d j.copies j.runs = 0 → Gives C s j d b 0 { s with ds := s.ds ++ cpD d j.runs s.g j.copies.toNat, g := s.g + j.copies }
theorem wadd_S {a b : Int} (ha : 0 ≤ a) (hb : 0 ≤ b) (h : a + b ≤ 9223372036854775807) (k : Q (.t [.i (a + b), .i 0]) []) : PRun Tryz.prog 173 [] [.i a, .i b] Q := by
 refine S173 ?_
 rw [w64 (x := a + b) (by omega) (by omega), decide_eq_true (show a ≥ 0 from ha), decide_eq_true (show b ≥ 0 from hb), decide_eq_true (show a + b ≥ 0 by omega)]
 exact k
theorem post_sI {F : Int → Int → Int → Prop} {a b : Int} : post [.agg [.i .i64, .i .i64], .I] [] F (.t [.a [.i a, .i b], .i e]) [] = F a b e := rfl
theorem zwo {F : List (List U) → Int → List (List U) → List Int → Prop} {l : List (List U)} {b : Tb} : post [.L 2, .I] [.c [.l 5, .n 33]] F (.t [.l 2 l, .i e]) [bK b] = F l e (b.map eT) (zfl b) := rfl
theorem zrz {F : List (List U) → Int → List (List U) → Int → Prop} {g : Int} {l : List (List U)} : post [.L 1, .I] [.c [.l 13, .i .i64]] F (.t [.l 1 l, .i e]) [drB ds g] = F l e (ds.map eD) g := rfl
theorem gives_S (B : WB C s) {j' : Jb} (hg : s.js[i]? = some j) (hj' : j' = jDo 5 j 0) (hd : at1 s.ds j.draft = some d) (hb : at1 C.bl d.blue = some b) (hbl : zd2 b 32 = 0) (K : ∀ e s', Gives C s j d b e s' → Q (.i e) (W8 C s')) :
 PRun Tryz.prog 96 (W8 C s) [.r 0 0, jV j'] Q := by
 have hdl := B.dlen
 have hbln := B.blen
 have hjl := B.jlen
 have hlt := (zza.1 hg).1
 have hjo := B.jok i j hg
 have hfx := zgr hjo.1
 have hdo : ∀ d ∈ s.ds, isD d = true := fun d hd => (B.dok d hd).1
 have hok := blueE_ok.1 hbl
 have hq := zed (x := b.per) (y := j.runs) (X := 1048576) (Y := 1000) (by have := hok.per; omega) (by have := hok.per; omega) (by omega) (by omega)
 have hmk := hok.makes
 obtain ⟨ib, hib, hibn⟩ := zcb hb
 obtain ⟨id, hid, hidn⟩ := zcb hd
 have hbr := B.cat.rg b (zzf hib)
 subst hj'
 refine S96 (zku (get1_S B.dnum (by omega) fun d' e' hd' => ?_))
 rw [zdb]
 obtain ⟨rfl, rfl⟩ : d' = d ∧ e' = 0 := by
  have hd' : (at1 s.ds j.draft = some d' ∧ e' = 0) ∨ (at1 s.ds j.draft = none ∧ e' = 3) := hd'
  rcases hd' with ⟨h, rfl⟩ | ⟨h, -⟩
  · rw [hd] at h; cases h; exact ⟨rfl, rfl⟩
  · rw [hd] at h; cases h
 refine cEq (fun hk => ?_) fun hk1 => cEq (fun hk => ?_) fun hk2 => cEq (fun hk => ?_) fun hk3 => cEq (fun hk => ?_) fun hk4 => ?_
 · have hk : j.kind = 1 := hk
   refine zku (zyr B.cat.bl fun b' e' hb' => ?_)
   rw [zwl]
   obtain ⟨rfl, rfl⟩ : b' = b ∧ e' = 0 := by
    rcases hb' with ⟨h, rfl⟩ | ⟨h, -⟩
    · rw [hb] at h; cases h; exact ⟨rfl, rfl⟩
    · rw [hb] at h; cases h
   have hmr : zkn b' j.runs = ((b'.makes, b'.per * j.runs), 0) := by
    unfold zkn
    rw [if_pos ⟨hbl, inJ_iff.2 (by omega)⟩]
   refine makes_S hbr ?_
   rw [show (jDo 5 j 0).runs = j.runs from rfl, hmr, post_sI]
   dsimp only
   have htop := B.binv.top b'.makes
   have hnn : 0 ≤ tyQ b'.makes s.b := by
    have h := B.binv.val (bin ⟨0, 0, 0, 0⟩ b'.makes)
    have e : (bin ⟨0, 0, 0, 0⟩ b'.makes).d = b'.makes := rfl
    rw [e] at h
    omega
   refine zb3 (fun _ _ => ?_) fun h => by omega
   rw [zaz]
   refine wadd_S hnn hq.1 (by omega) ?_
   rw [zb5]
   refine cNe (fun h => absurd rfl h) fun _ => cIf (fun h => K 5 s (.over hk h)) fun h => ?_
   refine zku (bayJ_S B (j := j) hg fun y hy hpl => ?_)
   rw [zma]
   refine zo9 (id := j.id) B.binv (by omega) ⟨by omega, by omega⟩ hpl ?_
   rw [zwo]
   have hri := B.binv.rmv (vK j.id y.place)
   have hrl : (rmv (vK j.id y.place) s.b).length ≤ s.b.length := z0n _ _
   have hx : isB (bin ⟨j.own, j.div, y.place, 1⟩ b'.makes) = true := by
    simp only [isB, zy9, decide_eq_true_eq]
    omega
   have htr := zpq (vK j.id y.place) s.b b'.makes
   have hsn := zh7 (d := b'.makes) (L := zha (vK j.id y.place) s.b) fun t ht => by
    have := (B.binv.key _ (zmr ht)).2
    simp only at this
    omega
   refine put_B (k := bin ⟨j.own, j.div, y.place, 1⟩ b'.makes) hri (by omega) (fun hc => ?_) (fun _ _ hc => ?_) fun _ _ hc => ?_
   · rcases hc with hc | hc
     · rw [hx] at hc; cases hc
     · omega
   · have hc : 1125899906842624 - tyQ b'.makes (rmv (vK j.id y.place) s.b) < b'.per * j.runs := hc
     omega
   · rw [zaz]
     have hv := hri.val (bin ⟨j.own, j.div, y.place, 1⟩ b'.makes)
     have hbi := hri.set (n := b'.per * j.runs) hx (by omega) hc
     rw [hy] at hbi ⊢
     exact K 0 _ (.made hk (by omega) hbi)
 · have hk : j.kind = 2 := hk
   have fin := K 0 _ (.me hk)
   refine zxl B.dnum (by omega) hdo (fun h => ?_) (fun i1 d1 hg1 hi1 h => ?_) fun i1 d1 hg1 hi1 h => ?_
   · have h : j.draft < 1 ∨ (s.ds.length : Int) < j.draft := h
     rw [zb1 h] at hd; cases hd
   · obtain rfl : d1 = d' := by have hi1 : j.draft = (i1 : Int) + 1 := hi1; rw [zam hg1 hi1] at hd; cases hd; rfl
     have h : zcs d1 j.runs 0 ≠ 0 := h
     rw [if_neg h] at fin
     rw [zdt]; exact fin
   · obtain rfl : d1 = d' := by have hi1 : j.draft = (i1 : Int) + 1 := hi1; rw [zam hg1 hi1] at hd; cases hd; rfl
     have h : zcs d1 j.runs 0 = 0 := h
     have hi1 : j.draft = (i1 : Int) + 1 := hi1
     rw [if_pos h, show (j.draft - 1).toNat = i1 by omega] at fin
     rw [zdt]; exact fin
 · have hk : j.kind = 3 := hk
   have fin := K 0 _ (.te hk)
   refine zxl B.dnum (by omega) hdo (fun h => ?_) (fun i1 d1 hg1 hi1 h => ?_) fun i1 d1 hg1 hi1 h => ?_
   · have h : j.draft < 1 ∨ (s.ds.length : Int) < j.draft := h
     rw [zb1 h] at hd; cases hd
   · obtain rfl : d1 = d' := by have hi1 : j.draft = (i1 : Int) + 1 := hi1; rw [zam hg1 hi1] at hd; cases hd; rfl
     have h : zcs d1 0 j.runs ≠ 0 := h
     rw [if_neg h] at fin
     rw [zdt]; exact fin
   · obtain rfl : d1 = d' := by have hi1 : j.draft = (i1 : Int) + 1 := hi1; rw [zam hg1 hi1] at hd; cases hd; rfl
     have h : zcs d1 0 j.runs = 0 := h
     have hi1 : j.draft = (i1 : Int) + 1 := hi1
     rw [if_pos h, show (j.draft - 1).toNat = i1 by omega] at fin
     rw [zdt]; exact fin
 · have hk : j.kind = 4 := hk
   refine copies_D B.dnum B.glen (by omega) hdo (fun h => ?_) (fun i1 d1 hg1 hi1 h => ?_) fun i1 d1 l hg1 hi1 h => ?_
   · have h : j.draft < 1 ∨ (s.ds.length : Int) < j.draft := h
     rw [zb1 h] at hd; cases hd
   · obtain rfl : d1 = d' := by have hi1 : j.draft = (i1 : Int) + 1 := hi1; rw [zam hg1 hi1] at hd; cases hd; rfl
     rw [zrz]
     exact K _ _ (.full hk h)
   · obtain rfl : d1 = d' := by have hi1 : j.draft = (i1 : Int) + 1 := hi1; rw [zam hg1 hi1] at hd; cases hd; rfl
     rw [zrz]
     exact K _ _ (.cop hk h)
 · have h1 : j.kind ≠ 1 := hk1
   have h2 : j.kind ≠ 2 := hk2
   have h3 : j.kind ≠ 3 := hk3
   have h4 : j.kind ≠ 4 := hk4
   omega
end
end
section
set_option maxRecDepth 1000000
variable {Q : V → Mem → Prop}
theorem zxm {me te : Int} (h : isD d = true) (h0 : zcs d me te = 0) : isD (ze8 d me te) = true := by
 have h1 := zf2 h
 unfold zcs at h0
 split at h0
 · cases h0
 · rename_i a1
   split at h0
   · cases h0
   · rename_i a2
     unfold isD ze8 at *
     simp only [zy9, inJ_iff] at h ⊢
     omega
theorem cpD_is {d : Dr} {runs g : Int} (h : isD d = true) (hr : 1 ≤ runs ∧ runs ≤ 1000) : ∀ n, ∀ x ∈ cpD d runs g n, isD x = true ∧ x.own = d.own ∧ x.blue = d.blue ∧ x.busy = 0
 | 0, x, hx => by simp [cpD] at hx
 | n + 1, x, hx => by
   simp only [cpD, zzh, z03] at hx
   rcases hx with hx | rfl
   · exact cpD_is h hr n x hx
   · refine ⟨?_, rfl, rfl, rfl⟩
     unfold isD at *
     simp only [zy9, inJ_iff] at h ⊢
     omega
theorem zyg {g : Int} {copies runs : Int} (h : zyh ds g d copies runs = 0) : (1 ≤ copies ∧ copies ≤ 10) ∧ (1 ≤ runs ∧ runs ≤ 1000) ∧ (ds.length : Int) + copies ≤ 64 := by
 unfold zyh at h
 split at h
 · cases h
 · rename_i h1
   split at h
   · cases h
   · split at h
     · cases h
     · rename_i h3
       simp only [not_or, Bool.not_eq_false, inJ_iff] at h1
       simp only [Classical.not_not] at h3
       exact ⟨h1.1, h1.2, h3.1⟩
structure GivF (s : Wk) (s' : Wk) : Prop where
 p : s'.p = s.p
 T : s'.T = s.T
 next : s'.next = s.next
 Lg : s'.Lg = s.Lg
 l : s'.l = s.l
 js : s'.js = s.js
 dnum : DNum s'.ds
 glen : s'.g = (s'.ds.length : Int)
 dlen : s'.ds.length ≤ s.ds.length ∨ s'.ds.length ≤ 64
 dok : ∀ d' ∈ s'.ds, isD d' = true ∧ ∃ d ∈ s.ds, d'.own = d.own ∧ d'.blue = d.blue
 old : ∀ (n : Int) (d : Dr), at1 s.ds n = some d → ∃ d', at1 s'.ds n = some d' ∧ d'.busy = d.busy
section
variable {C : Kt} {s : Wk} {now id : Int}
theorem znb {α : Type} {l : List α} {n : Int} {d d' : α} (hd : at1 l n = some d) (m : Int) (x : α) (hx : at1 l m = some x) : at1 (l.set (n - 1).toNat d') m = some (if m = n then d' else x) := by
 obtain ⟨i, hi, rfl⟩ := zcb hd
 obtain ⟨k, hk, rfl⟩ := zcb hx
 have h1 := (zza.1 hi).1
 refine zam (i := k) ?_ rfl
 rw [show ((i : Int) + 1 - 1).toNat = i by omega, List.getElem?_set]
 by_cases e : i = k
 · subst e; rw [if_pos rfl, if_pos h1, if_pos rfl]
 · rw [if_neg e, if_neg (by omega)]; exact hk
theorem zqv (B : WB C s) (hd : at1 s.ds j.draft = some d) {s' : Wk} (h : Gives C s j d b e s') : GivF s s' ∧ (e ≠ 0 → s' = s) := by
 obtain ⟨i, hi, hin⟩ := zcb hd
 have hdm := zzf hi
 have hdo := B.dok d hdm
 have same : GivF s s := ⟨rfl, rfl, rfl, rfl, rfl, rfl, B.dnum, B.glen, .inl (zzk _), fun x hx => ⟨(B.dok x hx).1, x, hx, rfl, rfl⟩, fun n x hx => ⟨x, hx, rfl⟩⟩
 have lrn : ∀ me te, zcs d me te = 0 → GivF s { s with ds := s.ds.set (j.draft - 1).toNat (ze8 d me te) } := fun me te h0 => by
  have ei : (j.draft - 1).toNat = i := by omega
  rw [ei]
  refine ⟨rfl, rfl, rfl, rfl, rfl, rfl, B.dnum.set hi rfl, by rw [B.glen]; simp, .inl (by simp), fun x hx => ?_, fun n x hx => ?_⟩
  · rcases z2h hx with hx | rfl
    · exact ⟨(B.dok x hx).1, x, hx, rfl, rfl⟩
    · exact ⟨zxm hdo.1 h0, d, hdm, rfl, rfl⟩
  · have := znb (d' := ze8 d me te) hd n x hx
    rw [ei] at this
    refine ⟨_, this, ?_⟩
    split
    · rename_i e
      subst e
      rw [hd] at hx; cases hx; rfl
    · rfl
 cases h with
 | over => exact ⟨same, fun _ => rfl⟩
 | made h1 h2 h3 => exact ⟨{ same with }, fun h => absurd rfl h⟩
 | me hk =>
   refine ⟨?_, fun h => absurd rfl h⟩
   split
   · rename_i h0; exact lrn _ _ h0
   · exact same
 | te hk =>
   refine ⟨?_, fun h => absurd rfl h⟩
   split
   · rename_i h0; exact lrn _ _ h0
   · exact same
 | full => exact ⟨same, fun _ => rfl⟩
 | cop hk h0 =>
   obtain ⟨c1, c2, c3⟩ := zyg h0
   have hcl := zm5 d j.runs s.g j.copies.toNat
   refine ⟨⟨rfl, rfl, rfl, rfl, rfl, rfl, zq1 B.dnum B.glen _, by have := B.glen; simp only [zzx, hcl]; omega, .inr (by simp only [zzx, hcl]; omega), fun x hx => ?_, fun n x hx => ?_⟩, fun h => absurd rfl h⟩
   · rcases zzh.1 hx with hx | hx
     · exact ⟨(B.dok x hx).1, x, hx, rfl, rfl⟩
     · have := cpD_is (g := s.g) hdo.1 c2 j.copies.toNat x hx
       exact ⟨this.1, d, hdm, this.2.1, this.2.2.1⟩
   · obtain ⟨k, hk, rfl⟩ := zcb hx
     exact ⟨x, zam (i := k) (by rw [zzi ((zza.1 hk).1)]; exact hk) rfl, rfl⟩
theorem zo7 (B : WB C s) (hdr : ∀ (i : Nat) (j : Jb), s.js[i]? = some j → ∃ d b, at1 s.ds j.draft = some d ∧ at1 C.bl d.blue = some b ∧ zd2 b 32 = 0)
 (k1 : ∀ e, e ≠ 0 → ((at1 s.js id = none ∧ e = 3) ∨ ∃ (i : Nat) (j : Jb), s.js[i]? = some j ∧ id = (i : Int) + 1 ∧ ((jE 5 j 0 ≠ 0 ∧ e = jE 5 j 0) ∨ ∃ d b, jE 5 j 0 = 0 ∧ at1 s.ds j.draft = some d ∧ at1 C.bl d.blue = some b ∧ Gives C s j d b e s)) → Q (.i e) (W9 C s)) (k2 : ∀ (i : Nat) (j : Jb) (d : Dr) (b : Bl) (s' : Wk), s.js[i]? = some j → id = (i : Int) + 1 → jE 5 j 0 = 0 → at1 s.ds j.draft = some d → at1 C.bl d.blue = some b → Gives C s j d b 0 s' → Q (.i 0) (W9 C { s' with ds := zdx s'.ds j.draft id 0, js := s.js.set i (jDo 5 j 0) })) :
 PRun Tryz.prog 31 (W8 C s) [.r 0 0, .i id] Q := by
 have hjl := B.jlen
 have hdl := B.dlen
 have hlen : ((s.js.map za2).length : Int) = (s.js.length : Int) := by rw [zzc]
 refine S31 (zqk B.sh (by omega) (fun hh => ?_) fun i j hg hid => ?_)
 · rw [zce]
   exact cNe (fun _ => cEq (fun h => absurd h (by decide)) fun _ => k1 3 (by decide) (.inl ⟨zb1 hh, rfl⟩)) fun h => absurd h (by decide)
 rw [zce]
 have hlt := (zza.1 hg).1
 have hjo := B.jok i j hg
 have hn8 := zdl hjo.1
 refine cNe (fun h => absurd rfl h) fun _ => zt5 (j := j) (by omega) ?_
 rw [zgi]
 by_cases he : jE 5 j 0 = 0
 rotate_left
 · exact cEq (fun h => absurd h he) fun _ => cEq (fun h => absurd h he) fun _ => k1 _ he (.inr ⟨i, j, hg, hid, .inl ⟨he, rfl⟩⟩)
 rw [zt6 he, he]
 refine cEq (fun _ => ?_) fun h => absurd rfl h
 obtain ⟨d, b, hd, hb, hbl⟩ := hdr i j hg
 refine gives_S B (j' := jDo 5 j 0) hg rfl hd hb hbl fun e s' hs' => ?_
 have hF := zqv B hd hs'
 have hl1000 : s'.ds.length ≤ 1000 := by rcases hF.1.dlen with h | h <;> omega
 rw [post_I8]
 by_cases he0 : e = 0
 rotate_left
 · refine cEq (fun h => absurd h he0) fun _ => ?_
   have := hF.2 he0
   subst this
   exact k1 _ he0 (.inr ⟨i, j, hg, hid, .inr ⟨d, b, he, hd, hb, hs'⟩⟩)
 subst he0
 refine cEq (fun _ => zqw hF.1.dnum (by omega) (fun x hx => (hF.1.dok x hx).1) fun e => ?_) fun h => absurd rfl h
 rw [zdt]
 have ejs : s'.js = s.js := hF.1.js
 rw [ejs, hlen, w64 (x := id - 1) (by omega) (by omega), show (id - 1).toNat = i by omega, zvr (jDo 5 j 0)]
 exact ⟨by omega, by omega, k2 i j d b s' hg hid he hd hb hs'⟩
end
end
section
set_option maxRecDepth 100000
def za6 {α : Type} (P : Jb → Bool) (f : Jb → α) (js : List Jb) : List α := (js.filter P).map f
section
variable {α : Type} {P : Jb → Bool} {f : Jb → α}
theorem zci (l m : List Jb) : za6 P f (l ++ m) = za6 P f l ++ za6 P f m := by unfold za6; rw [z2u, zz2]
theorem zib {d : Jb} (l : List Jb) (h : P d = true) : za6 P f (d :: l) = f d :: za6 P f l := by unfold za6; rw [z17 h, zzv]
theorem zkb {d : Jb} (l : List Jb) (h : P d = false) : za6 P f (d :: l) = za6 P f l := by unfold za6; rw [z1h (by simp [h])]
theorem zc4 (h : js[i]? = some j) : ∃ rest, (P j = true → (za6 P f js).Perm (f j :: rest)) ∧ (P j = false → (za6 P f js).Perm rest) ∧ ∀ e, (P e = true → (za6 P f (js.set i e)).Perm (f e :: rest)) ∧ (P e = false → (za6 P f (js.set i e)).Perm rest) := by
 obtain ⟨a, b, rfl, -, hs⟩ := zvq h
 refine ⟨za6 P f a ++ za6 P f b, fun hp => ?_, fun hp => ?_, fun e => ⟨fun hp => ?_, fun hp => ?_⟩⟩
 · rw [zci, zib _ hp]; exact z1z
 · rw [zci, zkb _ hp]
 · rw [hs, zci, zib _ hp]; exact z1z
 · rw [hs, zci, zkb _ hp]
theorem selJ_mem {x : α} : x ∈ za6 P f js ↔ ∃ j ∈ js, P j = true ∧ f j = x := by
 unfold za6
 simp only [zz6, z0r]
 constructor
 · rintro ⟨d, ⟨h1, h2⟩, h3⟩; exact ⟨d, h1, h2, h3⟩
 · rintro ⟨d, h1, h2, h3⟩; exact ⟨d, ⟨h1, h2⟩, h3⟩
theorem zep (js : List Jb) : (za6 P f js).length ≤ js.length := by unfold za6; rw [zzc]; exact z0n _ _
theorem zca {e : Jb} (h : js[i]? = some j) (h1 : P j = false) (h2 : P e = false) : (za6 P f (js.set i e)).Perm (za6 P f js) := by
 obtain ⟨r, -, r2, r3⟩ := zc4 (P := P) (f := f) h
 exact ((r3 e).2 h2).trans (r2 h1).symm
end
abbrev Pr (k : Nat) (j : Jb) : Bool := j.st == 2 && jAt j == (k : Int)
abbrev Pw (k : Nat) (j : Jb) : Bool := j.st == 1 && jAt j == (k : Int)
abbrev Pq (j : Jb) : Bool := j.st == 2
abbrev fq (j : Jb) : Int × Int := (j.fin, 2 * j.id)
structure WT (C : Kt) (s : Wk) : Prop where
 l4 : s.l.length = 4
 slot : ∀ (k : Nat) (x : Sd), s.l[k]? = some x → ∃ y, C.bays[k / 2]? = some y ∧ x.n = if k % 2 = 0 then y.make else y.lab
 room : ∀ x ∈ s.l, (x.run.length : Int) ≤ x.n
 run : ∀ (k : Nat) (x : Sd), s.l[k]? = some x → x.run.Perm (za6 (Pr k) (·.id) s.js)
 wait : ∀ (k : Nat) (x : Sd), s.l[k]? = some x → x.wait.Perm (za6 (Pw k) (·.id) s.js)
 tim : (s.T.map tp).Perm (za6 Pq fq s.js)
 ids : s.T.Pairwise fun a b => a.2.1 ≠ b.2.1
 lt : ∀ t ∈ s.T, t.2.1 < s.next
 jok : ∀ (i : Nat) (j : Jb), s.js[i]? = some j → jOk j = true ∧ j.id = (i : Int) + 1 ∧ 1 ≤ j.bay ∧ j.bay ≤ 2
 jlen : s.js.length ≤ 64
theorem jAt_bd (h : 1 ≤ j.bay ∧ j.bay ≤ 2) : 0 ≤ jAt j ∧ jAt j < 4 := by
 unfold jAt
 split <;> omega
section
variable {C : Kt} {s : Wk} {now : Int}
theorem WT.same (h : WT C s) (hg : s.js[i]? = some j) (h2 : j2 ∈ s.js) (e : j2.id = j.id) : j2 = j := by
 obtain ⟨k, hk⟩ := z0e.1 h2
 have a := (h.jok i j hg).2.1
 have b := (h.jok k j2 hk).2.1
 have : i = k := by omega
 subst this
 rw [hg] at hk
 exact (Option.some.inj hk).symm
theorem WT.Tlen (h : WT C s) : s.T.length ≤ 64 := by
 have h1 := h.tim.length_eq
 rw [zzc] at h1
 have := zep (P := Pq) (f := fq) s.js
 have := h.jlen
 omega
theorem WT.rlen (h : WT C s) (hx : x ∈ s.l) : x.run.length ≤ 64 ∧ x.wait.length ≤ 64 := by
 obtain ⟨k, hk⟩ := z0e.1 hx
 have h1 := (h.run k x hk).length_eq
 have h2 := (h.wait k x hk).length_eq
 have := zep (P := Pr k) (f := (·.id)) s.js
 have := zep (P := Pw k) (f := (·.id)) s.js
 have := h.jlen
 omega
theorem nd_ids {P : Jb → Bool} : ∀ {js : List Jb}, (∀ (i k : Nat) (a b : Jb), js[i]? = some a → js[k]? = some b → i ≠ k → a.id ≠ b.id) → (za6 P (·.id) js).Nodup := by
 intro js h
 unfold za6
 have : js.Pairwise fun a b => a.id ≠ b.id := by
  rw [z1q]
  intro i k hi hk hik
  exact h i k _ _ (zzb hi) (zzb hk) (by omega)
 exact z19.2 (this.filter _)
theorem WT.nd (h : WT C s) (P : Jb → Bool) : (za6 P (·.id) s.js).Nodup := nd_ids fun i k a b ha hb hne => by
 have h1 := (h.jok i a ha).2.1
 have h2 := (h.jok k b hb).2.1
 omega
theorem WT.runs (h : WT C s) (hx : s.l[k]? = some x) (hg : s.js[i]? = some j) : j.id ∈ x.run ↔ j.st = 2 ∧ jAt j = (k : Int) := by
 rw [(h.run k x hx).mem_iff, selJ_mem]
 constructor
 · rintro ⟨j2, h1, h2, h3⟩
   have := h.same hg h1 h3
   subst this
   simpa using h2
 · intro h1
   exact ⟨j, zzf hg, by simpa using h1, rfl⟩
theorem WT.waits (h : WT C s) (hx : s.l[k]? = some x) (hg : s.js[i]? = some j) : j.id ∈ x.wait ↔ j.st = 1 ∧ jAt j = (k : Int) := by
 rw [(h.wait k x hx).mem_iff, selJ_mem]
 constructor
 · rintro ⟨j2, h1, h2, h3⟩
   have := h.same hg h1 h3
   subst this
   simpa using h2
 · intro h1
   exact ⟨j, zzf hg, by simpa using h1, rfl⟩
theorem WT.has (h : WT C s) (hg : s.js[i]? = some j) (h2 : j.st = 2) : ∃ t ∈ s.T, tp t = fq j := by
 have : fq j ∈ s.T.map tp := h.tim.mem_iff.2 (selJ_mem.2 ⟨j, zzf hg, by simpa using h2, rfl⟩)
 obtain ⟨t, h1, h2⟩ := zz6.1 this
 exact ⟨t, h1, h2⟩
theorem WT.timer (h : WT C s) (ht : t ∈ s.T) : ∃ (i : Nat) (j : Jb), s.js[i]? = some j ∧ j.st = 2 ∧ tp t = fq j := by
 obtain ⟨j, h1, h2, h3⟩ := selJ_mem.1 (h.tim.mem_iff.1 (zz6.2 ⟨t, ht, rfl⟩))
 obtain ⟨i, hi⟩ := z0e.1 h1
 exact ⟨i, j, hi, by simpa using h2, h3.symm⟩
theorem WT.timS (h : WT C s) (hg : s.js[i]? = some j) (ht : t ∈ s.T) (hw : t.2.2 = 2 * j.id) : tp t = fq j ∧ j.st = 2 := by
 obtain ⟨k, j2, h1, h2, h3⟩ := h.timer ht
 have e : j2.id = j.id := by
  have := congrArg Prod.snd h3
  simp only at this
  omega
 have := h.same hg (zzf h1) e
 subst this
 exact ⟨h3, h2⟩
theorem WT.timD (h : WT C s) (hg : s.js[i]? = some j) (h2 : j2.st ≠ 2) (hT : TimF s.T (2 * j.id) T') :
 (T'.map tp).Perm (za6 Pq fq (s.js.set i j2)) ∧ (∀ t ∈ T', t ∈ s.T) ∧ T'.Pairwise fun a b => a.2.1 ≠ b.2.1 := by
 obtain ⟨r, r1, r2, r3⟩ := zc4 (P := Pq) (f := fq) hg
 have r4 := (r3 j2).2 (by simpa using h2)
 by_cases hs : j.st = 2
 · have r1 := r1 (by simpa using hs)
   have hex : ∃ t, (t :: T').Perm s.T ∧ tp t = fq j := by
    rcases hT with ⟨t, h1, h3⟩ | ⟨h1, -⟩
    · exact ⟨t, h1, (h.timS hg (h1.mem_iff.1 zz1) h3).1⟩
    · obtain ⟨t, h3, h4⟩ := h.has hg hs
      exact absurd (congrArg Prod.snd h4) (h1 t h3)
   obtain ⟨t, h1, h3⟩ := hex
   have e1 : ((t :: T').map tp).Perm (s.T.map tp) := h1.map tp
   rw [zzv, h3] at e1
   exact ⟨((e1.trans (h.tim.trans r1)).cons_inv).trans r4.symm, fun x hx => h1.mem_iff.1 (zzy _ hx), zr3 h.ids h1⟩
 · have e : T' = s.T := by
    rcases hT with ⟨t, h1, h3⟩ | ⟨-, h1⟩
    · exact absurd (h.timS hg (h1.mem_iff.1 zz1) h3).2 hs
    · exact h1
   subst e
   exact ⟨(h.tim.trans (r2 (by simpa using hs))).trans r4.symm, fun x hx => hx, h.ids⟩
theorem flt_perm {l : List Int} {x : Int} {r : List Int} (h : l.Perm (x :: r)) (hn : x ∉ r) : (l.filter (· != x)).Perm r := by
 have h1 := h.filter (· != x)
 rw [z1h (by simp)] at h1
 refine h1.trans ?_
 rw [z2k.2 fun y hy => by simp only [bne_iff_ne, ne_eq]; exact fun e => hn (e ▸ hy)]
theorem flt_id {l : List Int} {x : Int} (hn : x ∉ l) : l.filter (· != x) = l := z2k.2 fun y hy => by simp only [bne_iff_ne, ne_eq]; exact fun e => hn (e ▸ hy)
abbrev zqz (x : Sd) (id : Int) : Sd := ⟨x.n, x.run.filter (· != id), x.wait.filter (· != id)⟩
theorem zmt (h : WT C s) (hg : s.js[i]? = some j) (hok : jOk j2 = true) (hid : j2.id = j.id) (hb : j2.bay = j.bay) : ∀ (k : Nat) (e : Jb), (s.js.set i j2)[k]? = some e → jOk e = true ∧ e.id = (k : Int) + 1 ∧ 1 ≤ e.bay ∧ e.bay ≤ 2 := fun k e he => by
 have hlt := (zza.1 hg).1
 rw [List.getElem?_set] at he
 split at he
 · rename_i e1
   subst e1
   cases he
   have := h.jok i j hg
   exact ⟨hok, by rw [hid]; exact this.2.1, by rw [hb]; exact this.2.2⟩
 · exact h.jok k e he
theorem WT.drop (h : WT C s) (hg : s.js[i]? = some j) (hok : jOk j2 = true) (hid : j2.id = j.id) (hb : j2.bay = j.bay) (hst : j2.st ≠ 1 ∧ j2.st ≠ 2) (hT : TimF s.T (2 * j.id) T') (hx : s.l[k]? = some x)
 (hin : j.id ∈ x.run ∨ j.id ∈ x.wait) : WT C { s with T := T', l := s.l.set k (zqz x j.id), js := s.js.set i j2 } := by
 obtain ⟨t1, t2, t3⟩ := h.timD hg hst.2 hT
 have hkl := (zza.1 hx).1
 have hat : jAt j = (k : Int) := by
  rcases hin with hin | hin
  · exact ((h.runs hx hg).1 hin).2
  · exact ((h.waits hx hg).1 hin).2
 have side : ∀ (P : Jb → Bool) (L : List Int), P j2 = false → L.Perm (za6 P (·.id) s.js) → (L.filter (· != j.id)).Perm (za6 P (·.id) (s.js.set i j2)) := fun P L hp hL => by
  obtain ⟨r, r1, r2, r3⟩ := zc4 (P := P) (f := (·.id)) hg
  have r4 := (r3 j2).2 hp
  have hnd := h.nd P
  cases hpj : P j with
  | true =>
    have r1 := r1 hpj
    have hn : j.id ∉ r := (z02.1 (r1.nodup_iff.1 hnd)).1
    exact (flt_perm (hL.trans r1) hn).trans r4.symm
  | false =>
    have r2 := r2 hpj
    have hn : j.id ∉ L := fun hm => by
     obtain ⟨a, a1, a2, a3⟩ := selJ_mem.1 (hL.mem_iff.1 hm)
     have := h.same hg a1 a3
     subst this
     rw [hpj] at a2; cases a2
    rw [flt_id hn]
    exact (hL.trans r2).trans r4.symm
 have other : ∀ (P : Jb → Bool) (L : List Int), P j = false → P j2 = false → L.Perm (za6 P (·.id) s.js) → L.Perm (za6 P (·.id) (s.js.set i j2)) := fun P L h1 h2 hL => hL.trans (zca hg h1 h2).symm
 refine { l4 := by simp only [z0b]; exact h.l4, slot := fun m z hz => ?_, room := fun z hz => ?_, run := fun m z hz => ?_, wait := fun m z hz => ?_, tim := t1, ids := t3, lt := fun t ht => h.lt t (t2 t ht), jok := zmt h hg hok hid hb, jlen := by simp only [z0b]; exact h.jlen }
 · rcases zbt hx hz with ⟨rfl, rfl⟩ | ⟨-, hz⟩
   · exact h.slot _ x hx
   · exact h.slot m z hz
 · rcases zee hx hz with rfl | hz
   · have h1 := h.room x (zzf hx)
     have h2 := z0n (· != j.id) x.run
     show ((x.run.filter (· != j.id)).length : Int) ≤ x.n
     omega
   · exact h.room z hz
 · rcases zbt hx hz with ⟨rfl, rfl⟩ | ⟨hne, hz⟩
   · exact side (Pr _) x.run (by simp [hst.2]) (h.run _ x hx)
   · exact other (Pr m) z.run (by simp only [z16, beq_eq_false_iff_ne]; exact .inr (by omega)) (by simp [hst.2]) (h.run m z hz)
 · rcases zbt hx hz with ⟨rfl, rfl⟩ | ⟨hne, hz⟩
   · exact side (Pw _) x.wait (by simp [hst.1]) (h.wait _ x hx)
   · exact other (Pw m) z.wait (by simp only [z16, beq_eq_false_iff_ne]; exact .inr (by omega)) (by simp [hst.1]) (h.wait m z hz)
theorem WT.out (h : WT C s) (hg : s.js[i]? = some j) (hok : jOk j2 = true) (hid : j2.id = j.id) (hb : j2.bay = j.bay) (hst : j2.st ≠ 1 ∧ j2.st ≠ 2) (hs : j.st ≠ 1 ∧ j.st ≠ 2) (hT : TimF s.T (2 * j.id) T') : WT C { s with T := T', js := s.js.set i j2 } := by
 obtain ⟨t1, t2, t3⟩ := h.timD hg hst.2 hT
 exact { l4 := h.l4, slot := h.slot, room := h.room, run := fun m z hz => (h.run m z hz).trans (zca hg (by simp [hs.2]) (by simp [hst.2])).symm, wait := fun m z hz => (h.wait m z hz).trans (zca hg (by simp [hs.1]) (by simp [hst.1])).symm, tim := t1, ids := t3, lt := fun t ht => h.lt t (t2 t ht), jok := zmt h hg hok hid hb, jlen := by simp only [z0b]; exact h.jlen }
theorem zgs (h : jE 1 j now = 0) : jOk (jDo 1 j now) = true ∧ j.st = 1 := by
 obtain ⟨h1, h2, h3⟩ := jE_zero.1 h
 have hst : j.st = 1 := by simpa [zmu] using h3
 refine ⟨?_, hst⟩
 obtain ⟨-, -, h5, h6⟩ := zf1 h1 (.inl hst)
 have h2' := inJ_iff.1 h2
 unfold jOk at h1 ⊢
 rw [zy9] at h1 ⊢
 refine ⟨h1.1, ?_⟩
 unfold jSt
 rw [if_neg (by show ¬ ((2 : Int) = 1 ∨ (2 : Int) = 3); omega), if_pos (by show (2 : Int) = 2; rfl)]
 show (inJ now 0 1099511627776 && (inJ j.left 1 j.time && now + j.left == zy5 .i64 (now + j.left))) = true
 rw [h2, inJ_iff.2 h5, w64 (by omega) (by omega)]
 simp
theorem WT.start (h : WT C s) (hg : s.js[i]? = some j) (he : jE 1 j now = 0) {ws : List Int} (hx : s.l[k]? = some x) (hw : x.wait.Perm (j.id :: ws)) (hr : (x.run.length : Int) < x.n) {ws' : List Int} (hws : ws'.Perm ws) :
 WT C (runW { s with l := s.l.set k ⟨x.n, zi2 j.id x.run, ws'⟩ } i j now) := by
 obtain ⟨hok, hst⟩ := zgs he
 have hin : j.id ∈ x.wait := hw.mem_iff.2 zz1
 have hat := ((h.waits hx hg).1 hin).2
 have hat2 : jAt (jDo 1 j now) = (k : Int) := hat
 have hst2 : (jDo 1 j now).st = 2 := rfl
 obtain ⟨q, -, q2, q3⟩ := zc4 (P := Pq) (f := fq) hg
 have hins : ∀ l : List Int, (zi2 j.id l).Perm (j.id :: l) := fun l => by
  unfold zi2
  refine z1z.trans (.cons _ ?_)
  rw [z0t]
 refine { l4 := by simp only [z0b]; exact h.l4, slot := fun m z hz => ?_, room := fun z hz => ?_, run := fun m z hz => ?_, wait := fun m z hz => ?_, tim := ?_, ids := ?_, lt := fun t ht => ?_, jok := zmt (s := s) h hg hok rfl rfl, jlen := by simp only [z0b]; exact h.jlen }
 · rcases zbt hx hz with ⟨rfl, rfl⟩ | ⟨-, hz⟩
   · exact h.slot _ x hx
   · exact h.slot m z hz
 · rcases zee hx hz with rfl | hz
   · show ((zi2 j.id x.run).length : Int) ≤ x.n
     rw [zmx]
     omega
   · exact h.room z hz
 · rcases zbt hx hz with ⟨rfl, rfl⟩ | ⟨hne, hz⟩
   · obtain ⟨r, -, r2, r3⟩ := zc4 (P := Pr m) (f := (·.id)) hg
     have r2 := r2 (by simp [hst])
     have r4 := (r3 (jDo 1 j now)).1 (by simp [hst2, hat2])
     exact ((hins x.run).trans (((h.run _ x hx).trans r2).cons _)).trans r4.symm
   · exact (h.run m z hz).trans (zca hg (by simp [hst]) (by simp only [z16, beq_eq_false_iff_ne]; exact .inr (by omega))).symm
 · rcases zbt hx hz with ⟨rfl, rfl⟩ | ⟨hne, hz⟩
   · obtain ⟨r, r1, -, r3⟩ := zc4 (P := Pw m) (f := (·.id)) hg
     have r1 := r1 (by simp [hst, hat])
     have r4 := (r3 (jDo 1 j now)).2 (by simp [hst2])
     exact (hws.trans ((hw.symm.trans ((h.wait _ x hx).trans r1)).cons_inv)).trans r4.symm
   · exact (h.wait m z hz).trans (zca hg (by simp only [z16, beq_eq_false_iff_ne]; exact .inr (by omega)) (by simp [hst2])).symm
 · have q2 := q2 (by simp [hst])
   have q4 := (q3 (jDo 1 j now)).1 (by simp [hst2])
   show ((now + j.left, s.next, 2 * j.id) :: s.T |>.map tp).Perm _
   rw [zzv]
   exact ((h.tim.trans q2).cons _).trans q4.symm
 · exact z0h.2 ⟨fun t ht => by have := h.lt t ht; simp only; omega, h.ids⟩
 · rcases zze.1 ht with rfl | ht
   · show s.next < s.next + 1; omega
   · have := h.lt t ht
     show t.2.1 < s.next + 1
     omega
theorem WT.queue (h : WT C s) (hg : s.js[i]? = some j) (hok : jOk j2 = true) (hid : j2.id = j.id) (hb : j2.bay = j.bay) (hs : j.st ≠ 1 ∧ j.st ≠ 2) (h1 : j2.st = 1) (hx : s.l[k]? = some x) (hat : jAt j2 = (k : Int)) :
 WT C { s with l := s.l.set k { x with wait := x.wait ++ [j2.id] }, js := s.js.set i j2 } := by
 have hT : TimF s.T (2 * j.id) s.T := .inr ⟨fun t ht e => hs.2 (h.timS hg ht e).2, rfl⟩
 obtain ⟨t1, t2, t3⟩ := h.timD hg (j2 := j2) (by omega) hT
 refine { l4 := by simp only [z0b]; exact h.l4, slot := fun m z hz => ?_, room := fun z hz => ?_, run := fun m z hz => ?_, wait := fun m z hz => ?_, tim := t1, ids := t3, lt := h.lt, jok := zmt h hg hok hid hb, jlen := by simp only [z0b]; exact h.jlen }
 · rcases zbt hx hz with ⟨rfl, rfl⟩ | ⟨-, hz⟩
   · exact h.slot _ x hx
   · exact h.slot m z hz
 · rcases zee hx hz with rfl | hz
   · exact h.room x (zzf hx)
   · exact h.room z hz
 · rcases zbt hx hz with ⟨rfl, rfl⟩ | ⟨hne, hz⟩
   · exact (h.run _ x hx).trans (zca hg (by simp [hs.2]) (by simp [h1])).symm
   · exact (h.run m z hz).trans (zca hg (by simp [hs.2]) (by simp [h1])).symm
 · rcases zbt hx hz with ⟨rfl, rfl⟩ | ⟨hne, hz⟩
   · obtain ⟨r, -, r2, r3⟩ := zc4 (P := Pw m) (f := (·.id)) hg
     have r2 := r2 (by simp [hs.1])
     have r4 := (r3 j2).1 (by simp [h1, hat])
     refine List.Perm.trans ?_ r4.symm
     exact (z12 (l₁ := x.wait) (l₂ := [j2.id])).trans (((h.wait _ x hx).trans r2).cons _)
   · exact (h.wait m z hz).trans (zca hg (by simp [hs.1]) (by simp only [z16, beq_eq_false_iff_ne]; exact .inr (by omega))).symm
theorem WT.more (h : WT C s) (hok : jOk j = true) (hid : j.id = (s.js.length : Int) + 1) (hb : 1 ≤ j.bay ∧ j.bay ≤ 2) (h1 : j.st = 1) (hl : s.js.length < 64) (hx : s.l[k]? = some x) (hat : jAt j = (k : Int)) :
 WT C { s with l := s.l.set k { x with wait := x.wait ++ [j.id] }, js := s.js ++ [j] } := by
 have no : ∀ {α : Type} (P : Jb → Bool) (f : Jb → α), P j = false → za6 P f (s.js ++ [j]) = za6 P f s.js := fun P f hp => by
  rw [zci, zkb _ hp]
  exact zz7 _
 refine { l4 := by simp only [z0b]; exact h.l4, slot := fun m z hz => ?_, room := fun z hz => ?_, run := fun m z hz => ?_, wait := fun m z hz => ?_, tim := ?_, ids := h.ids, lt := h.lt, jok := fun m e he => ?_, jlen := by simp only [zzx, zzr, z1a]; omega }
 · rcases zbt hx hz with ⟨rfl, rfl⟩ | ⟨-, hz⟩
   · exact h.slot _ x hx
   · exact h.slot m z hz
 · rcases zee hx hz with rfl | hz
   · exact h.room x (zzf hx)
   · exact h.room z hz
 · have e := no (Pr m) (·.id) (by simp [h1])
   show z.run.Perm (za6 (Pr m) (·.id) (s.js ++ [j]))
   rw [e]
   rcases zbt hx hz with ⟨rfl, rfl⟩ | ⟨hne, hz⟩
   · exact h.run _ x hx
   · exact h.run m z hz
 · rcases zbt hx hz with ⟨rfl, rfl⟩ | ⟨hne, hz⟩
   · show (x.wait ++ [j.id]).Perm (za6 (Pw m) (·.id) (s.js ++ [j]))
     rw [zci, zib _ (show Pw m j = true by simp [h1, hat])]
     exact (h.wait _ x hx).append_right _
   · have e := no (Pw m) (·.id) (by simp only [z16, beq_eq_false_iff_ne]; exact .inr (by omega))
     show z.wait.Perm (za6 (Pw m) (·.id) (s.js ++ [j]))
     rw [e]
     exact h.wait m z hz
 · have e := no Pq fq (by simp [h1])
   show (s.T.map tp).Perm (za6 Pq fq (s.js ++ [j]))
   rw [e]
   exact h.tim
 · have he : (s.js ++ [j])[m]? = some e := he
   rw [List.getElem?_append] at he
   split at he
   · exact h.jok m e he
   · rename_i hm
     have : m = s.js.length := by
      have := (zza.1 he).1
      simp at this
      omega
     subst this
     simp at he
     subst he
     exact ⟨hok, hid, hb⟩
end
end
section
set_option maxRecDepth 100000
section
variable {C : Kt} {s s' : Wk} {now : Int}
theorem WT.congr (h : WT C s) (e1 : s'.l = s.l) (e2 : s'.T = s.T) (e3 : s'.next = s.next) (e4 : s'.js = s.js) : WT C s' where
 l4 := by rw [e1]; exact h.l4
 slot := by rw [e1]; exact h.slot
 room := by rw [e1]; exact h.room
 run := by rw [e1, e4]; exact h.run
 wait := by rw [e1, e4]; exact h.wait
 tim := by rw [e2, e4]; exact h.tim
 ids := by rw [e2]; exact h.ids
 lt := by rw [e2, e3]; exact h.lt
 jok := by rw [e4]; exact h.jok
 jlen := by rw [e4]; exact h.jlen
theorem WT.sideOf (h : WT C s) (hg : s.js[i]? = some j) : ∃ (k : Nat) (x : Sd), s.l[k]? = some x ∧ jAt j = (k : Int) := by
 have hb := jAt_bd (h.jok i j hg).2.2
 have hk : (jAt j).toNat < s.l.length := by rw [h.l4]; omega
 exact ⟨(jAt j).toNat, _, zzb hk, by omega⟩
theorem ziw (x : Sd) (id : Int) : (∃ w ws, id ∈ x.run ∧ x.wait.filter (· != id) = w :: ws ∧ lvS x id = (⟨x.n, zi2 w (x.run.filter (· != id)), ws⟩, w)) ∨ lvS x id = (zqz x id, 0) := by
 unfold lvS
 cases hc : x.run.contains id with
 | false => exact .inr rfl
 | true =>
   cases hw : x.wait.filter (· != id) with
   | nil =>
     refine .inr ?_
     unfold zqz
     rw [hw]
   | cons w ws => exact .inl ⟨w, ws, by simpa using hc, rfl, rfl⟩
theorem WT.lvOk (h : WT C s) (hg : s.js[i]? = some j) (ht : 0 ≤ now ∧ now ≤ 1099511627776) : LvOk { s with js := s.js.set i j2 } j.id now := by
 obtain ⟨k, x, hx, hat⟩ := h.sideOf hg
 by_cases hst : j.st = 1 ∨ j.st = 2
 · refine .inr ⟨k, x, hx, ?_, fun hw hr => ?_, ?_, ?_⟩
   · rcases hst with hst | hst
     · exact .inr ((h.waits hx hg).2 ⟨hst, hat⟩)
     · exact .inl ((h.runs hx hg).2 ⟨hst, hat⟩)
   · have h1 := ((h.waits hx hg).1 hw).1
     have h2 := ((h.runs hx hg).1 hr).1
     omega
   · refine z1c.2 ⟨((h.run k x hx).nodup_iff).2 (h.nd _), ((h.wait k x hx).nodup_iff).2 (h.nd _), ?_⟩
     intro a ha b hb e
     subst e
     obtain ⟨a1, b1, c1, d1⟩ := selJ_mem.1 ((h.run k x hx).mem_iff.1 ha)
     obtain ⟨a2, b2, c2, d2⟩ := selJ_mem.1 ((h.wait k x hx).mem_iff.1 hb)
     obtain ⟨m, hm⟩ := z0e.1 b1
     have := h.same hm b2 (by rw [d1, d2])
     subst this
     simp only [zy9, beq_iff_eq] at c1 c2
     omega
   · rcases ziw x j.id with ⟨w, ws, hr, hw, e⟩ | e
     · right
       have hmw : w ∈ x.wait.filter (· != j.id) := by rw [hw]; exact zz1
       obtain ⟨m1, m2⟩ := z0r.1 hmw
       obtain ⟨a, a1, a2, a3⟩ := selJ_mem.1 ((h.wait k x hx).mem_iff.1 m1)
       obtain ⟨m, hm⟩ := z0e.1 a1
       have hj := h.jok m a hm
       have hne : i ≠ m := fun e2 => by
        subst e2
        rw [hg] at hm; cases hm
        simp [a3] at m2
       refine ⟨m, a, by rw [e]; show w = _; rw [← a3]; exact hj.2.1, by show (s.js.set i j2)[m]? = _; rw [zz0 hne]; exact hm, hj.2.1, jE_zero.2 ⟨hj.1, inJ_iff.2 ht, ?_⟩⟩
       simp only [zy9, beq_iff_eq] at a2
       unfold zmu
       simpa using a2.1
     · left; rw [e]
 · refine .inl fun z hz => ?_
   obtain ⟨m, hm⟩ := z0e.1 hz
   exact ⟨fun hh => hst (.inr ((h.runs hm hg).1 hh).1), fun hh => hst (.inl ((h.waits hm hg).1 hh).1)⟩
structure LvR (s : Wk) (i : Nat) (j2 : Jb) (now : Int) (s' : Wk) : Prop where
 p : s'.p = s.p
 b : s'.b = s.b
 Lg : s'.Lg = s.Lg
 ds : s'.ds = s.ds
 g : s'.g = s.g
 js : s'.js = s.js.set i j2 ∨ ∃ (m : Nat) (a : Jb), m ≠ i ∧ s.js[m]? = some a ∧ jE 1 a now = 0 ∧ s'.js = (s.js.set i j2).set m (jDo 1 a now)
 nx : s'.next ≤ s.next + 1
 due : ∀ t ∈ s'.T, t ∈ s.T ∨ now < t.1
theorem TimF.sub {T : List Tm} {w : Int} (h : TimF T w T') : ∀ t ∈ T', t ∈ T := by
 rcases h with ⟨t, h1, -⟩ | ⟨-, rfl⟩
 · exact fun x hx => h1.mem_iff.1 (zzy _ hx)
 · exact fun x hx => hx
theorem WT.leave (h : WT C s) (hg : s.js[i]? = some j) (hok : jOk j2 = true) (hid : j2.id = j.id) (hb : j2.bay = j.bay) (hst : j2.st ≠ 1 ∧ j2.st ≠ 2) (hL : Lvs { s with js := s.js.set i j2 } j.id now s') : WT C s' ∧ LvR s i j2 now s' := by
 have hlt := (zza.1 hg).1
 obtain ⟨k0, x0, hx0, hat0⟩ := h.sideOf hg
 cases hL with
 | no hT hno =>
   have hs : j.st ≠ 1 ∧ j.st ≠ 2 := ⟨fun e => (hno x0 (zzf hx0)).2 ((h.waits hx0 hg).2 ⟨e, hat0⟩), fun e => (hno x0 (zzf hx0)).1 ((h.runs hx0 hg).2 ⟨e, hat0⟩)⟩
   exact ⟨h.out hg hok hid hb hst hs hT, rfl, rfl, rfl, rfl, rfl, .inl rfl, by show s.next ≤ s.next + 1; omega, fun t ht => .inl (hT.sub t ht)⟩
 | @one T' k x hT hx hin h0 =>
   have e : lvS x j.id = (zqz x j.id, 0) := by
    rcases ziw x j.id with ⟨w, ws, hr, hw, e⟩ | e
    · rw [e] at h0
      have h0 : w = 0 := h0
      have hmw : w ∈ x.wait.filter (· != j.id) := by rw [hw]; exact zz1
      obtain ⟨m1, -⟩ := z0r.1 hmw
      obtain ⟨a, a1, a2, a3⟩ := selJ_mem.1 ((h.wait k x hx).mem_iff.1 m1)
      obtain ⟨m, hm⟩ := z0e.1 a1
      have := (h.jok m a hm).2.1
      omega
    · exact e
   rw [e]
   exact ⟨h.drop hg hok hid hb hst hT hx hin, rfl, rfl, rfl, rfl, rfl, .inl rfl, by show s.next ≤ s.next + 1; omega, fun t ht => .inl (hT.sub t ht)⟩
 | @two T' k x m a hT hx hin hw2 ha hai hae =>
   have hkl := (zza.1 hx).1
   have ha : (s.js.set i j2)[m]? = some a := ha
   rcases ziw x j.id with ⟨w, ws, hr, hw, e⟩ | e
   · rw [e] at hw2 ⊢
     have hw2 : w = (m : Int) + 1 := hw2
     have hwa : w = a.id := by omega
     subst hwa
     have h1 := h.drop hg hok hid hb hst hT hx hin
     have hrl : (x.run.filter (· != j.id)).length < x.run.length := by
      rcases z01 (x.run.filter (· != j.id)).length x.run.length with h | h
      · exact h
      · have := List.length_filter_eq_length_iff.1 (Nat.le_antisymm (z0n _ _) h) j.id hr
        simp at this
     have hroom := h.room x (zzf hx)
     have h2 := h1.start (i := m) (j := a) (now := now) (k := k) (x := zqz x j.id) (ws := ws) (ws' := ws) ha hae (by show (s.l.set k (zqz x j.id))[k]? = _; rw [z0f hkl]) (by show (x.wait.filter (· != j.id)).Perm _; rw [hw]) (by show ((x.run.filter (· != j.id)).length : Int) < x.n; omega) (.refl _)
     have hne : m ≠ i := fun e2 => by
      subst e2
      rw [z0f hlt] at ha
      cases ha
      have := (jE_zero.1 hae).2.2
      have : j2.st = 1 := by simpa [zmu] using this
      exact hst.1 this
     refine ⟨?_, rfl, rfl, rfl, rfl, rfl, .inr ⟨m, a, hne, ?_, hae, rfl⟩, by show s.next + 1 ≤ s.next + 1; omega, fun t ht => ?_⟩
     · refine h2.congr ?_ rfl rfl rfl
       show s.l.set k _ = (s.l.set k (zqz x j.id)).set k _
       rw [List.set_set]
     · rw [zz0 (Ne.symm hne)] at ha; exact ha
     · rcases zze.1 ht with rfl | ht
       · right
         have := (zf1 (jE_zero.1 hae).1 (.inl (by simpa [zmu] using (jE_zero.1 hae).2.2))).2.2.1
         show now < now + a.left
         omega
       · exact .inl (hT.sub t ht)
   · rw [e] at hw2
     have hw2 : (0 : Int) = (m : Int) + 1 := hw2
     omega
structure AsR (s0 : Wk) (i : Nat) (j : Jb) (now : Int) (s' : Wk) : Prop where
 p : s'.p = s0.p
 b : s'.b = s0.b
 Lg : s'.Lg = s0.Lg
 ds : s'.ds = s0.ds
 g : s'.g = s0.g
 js : s'.js = s0.js ∨ s'.js = s0.js.set i (jDo 1 j now)
 nx : s'.next ≤ s0.next + 1
 due : ∀ t ∈ s'.T, t ∈ s0.T ∨ now < t.1
theorem WT.asks {s0 : Wk} (hx : s0.l[k]? = some x) (h1 : WT C { s0 with l := s0.l.set k { x with wait := x.wait ++ [j.id] } }) (hg : s0.js[i]? = some j) (he : jE 1 j now = 0) (hA : Asks s0 k x i j now s') : WT C s' ∧ AsR s0 i j now s' := by
 have hkl := (zza.1 hx).1
 cases hA with
 | wait hr =>
   have e : zq4 x j.id = { x with wait := x.wait ++ [j.id] } := by unfold zq4; rw [if_neg hr]
   rw [e]
   exact ⟨h1, rfl, rfl, rfl, rfl, rfl, .inl rfl, by show s0.next ≤ s0.next + 1; omega, fun t ht => .inl ht⟩
 | run hr =>
   have e : zq4 x j.id = { x with run := zi2 j.id x.run } := by unfold zq4; rw [if_pos hr]
   rw [e]
   have h2 := h1.start (i := i) (j := j) (now := now) (k := k) (x := { x with wait := x.wait ++ [j.id] }) (ws := x.wait) (ws' := x.wait) hg he (by show (s0.l.set k _)[k]? = _; rw [z0f hkl]) (z12 (l₁ := x.wait) (l₂ := [j.id])) hr (.refl _)
   refine ⟨?_, rfl, rfl, rfl, rfl, rfl, .inr rfl, by show s0.next + 1 ≤ s0.next + 1; omega, fun t ht => ?_⟩
   · refine h2.congr ?_ rfl rfl rfl
     show s0.l.set k _ = (s0.l.set k _).set k _
     rw [List.set_set]
   · rcases zze.1 ht with rfl | ht
     · right
       have := (zf1 (jE_zero.1 he).1 (.inl (zgs he).2)).2.2.1
       show now < now + j.left
       omega
     · exact .inl ht
end
end
section
set_option maxRecDepth 100000
theorem zl5 {x : K4} (d : Int) : ∀ {L : List Stk} {l : Tb}, Srt l → tyQ d (zih x L l) = tyQ d l + zjo d L
 | [], l, _ => by simp [zih, zjo]
 | q :: r, l, h => by
   simp only [zih, zjo]
   rw [zl5 d (zhu h)]
   unfold tyQ
   rw [zd3 h]
   by_cases e : q.1 = d
   · rw [if_pos e, if_pos (by simpa [bin] using e)]; omega
   · rw [if_neg e, if_neg (by simpa [bin] using e)]; omega
structure KtC (C : Kt) : Prop where
 ok : KtOk C
 blue : ∀ b ∈ C.bl, zd2 b 32 = 0
theorem jDo_fix {w : Nat} : zpk (jDo w j now) = zpk j ∧ (jDo w j now).id = j.id ∧ (jDo w j now).bay = j.bay ∧ (jDo w j now).draft = j.draft ∧ jAt (jDo w j now) = jAt j := by
 unfold jDo
 split <;> exact ⟨rfl, rfl, rfl, rfl, rfl⟩
theorem zsm {w : Nat} (h : jOk j = true) (hs : jSt (jDo w j now) = true) : jOk (jDo w j now) = true := by
 unfold jOk at h ⊢
 rw [zy9] at h ⊢
 exact ⟨by rw [jDo_fix.1]; exact h.1, hs⟩
theorem jMay_2 (h : zmu 2 j now = true) : j.st = 2 ∧ j.start ≤ now ∧ now ≤ j.fin - 1 := by
 simp only [zmu, zy9, beq_iff_eq, inJ_iff] at h
 exact ⟨h.1, h.2.1, h.2.2⟩
theorem jMay_4 (h : zmu 4 j now = true) : j.st = 2 ∧ j.fin ≤ now := by
 simp only [zmu, zy9, beq_iff_eq, decide_eq_true_eq] at h
 exact ⟨h.1, by omega⟩
theorem jDo2_ok (h : jE 2 j now = 0) : jOk (jDo 2 j now) = true ∧ j.st = 2 := by
 obtain ⟨h1, h2, h3⟩ := jE_zero.1 h
 obtain ⟨hs, a1, a2⟩ := jMay_2 h3
 obtain ⟨b1, b2, b3, b4⟩ := zql h1 hs
 refine ⟨zsm h1 ?_, hs⟩
 unfold jSt
 rw [if_pos (by show (3 : Int) = 1 ∨ (3 : Int) = 3; omega), zy9]
 refine ⟨rfl, inJ_iff.2 ?_⟩
 show 1 ≤ j.fin - now ∧ j.fin - now ≤ j.time
 omega
theorem jDo4_ok (h : jE 4 j now = 0) : jOk (jDo 4 j now) = true ∧ j.st = 2 ∧ j.fin ≤ now := by
 obtain ⟨h1, h2, h3⟩ := jE_zero.1 h
 obtain ⟨hs, a1⟩ := jMay_4 h3
 obtain ⟨b1, b2, b3, b4⟩ := zql h1 hs
 refine ⟨zsm h1 ?_, hs, a1⟩
 unfold jSt
 rw [if_neg (by show ¬ ((4 : Int) = 1 ∨ (4 : Int) = 3); omega), if_neg (by show ¬ (4 : Int) = 2; omega), if_pos (by show (4 : Int) = 4 ∨ (4 : Int) = 5; omega)]
 show (inJ j.start 0 1099511627776 && (decide (j.start < j.fin) && (decide (j.fin ≤ 2199023255552) && (0 : Int) == 0))) = true
 rw [inJ_iff.2 b1, decide_eq_true (by omega), decide_eq_true (by omega)]
 rfl
theorem jDo5_ok (h : jE 5 j now = 0) : jOk (jDo 5 j now) = true ∧ j.st = 4 := by
 obtain ⟨h1, h2, h3⟩ := jE_zero.1 h
 have hs : j.st = 4 := by simpa [zmu] using h3
 refine ⟨zsm h1 ?_, hs⟩
 unfold jOk at h1
 rw [zy9] at h1
 have h4 := h1.2
 unfold jSt at h4 ⊢
 rw [if_neg (by omega), if_neg (by omega), if_pos (.inl hs)] at h4
 rw [if_neg (by show ¬ ((5 : Int) = 1 ∨ (5 : Int) = 3); omega), if_neg (by show ¬ (5 : Int) = 2; omega), if_pos (by show (5 : Int) = 4 ∨ (5 : Int) = 5; omega)]
 exact h4
theorem jDo6_ok (h : jE 6 j now = 0) : jOk (jDo 6 j now) = true ∧ 1 ≤ j.st ∧ j.st ≤ 3 := by
 obtain ⟨h1, h2, h3⟩ := jE_zero.1 h
 have hs := inJ_iff.1 (show inJ j.st 1 3 = true from h3)
 refine ⟨zsm h1 ?_, hs⟩
 unfold jSt
 rw [if_neg (by show ¬ ((6 : Int) = 1 ∨ (6 : Int) = 3); omega), if_neg (by show ¬ (6 : Int) = 2; omega), if_neg (by show ¬ ((6 : Int) = 4 ∨ (6 : Int) = 5); omega), if_pos (by show (6 : Int) = 6; rfl)]
 rfl
def MkF (Lg : List Mk) (j : Jb) : Prop := (j.st = 4 ∨ j.st = 5 → ofM Lg 1 j.id = some (j.fin, 1, j.id, 4)) ∧ (j.st = 6 → ∃ a, ofM Lg 1 j.id = some (a, 1, j.id, 6)) ∧ (1 ≤ j.st ∧ j.st ≤ 3 → ofM Lg 1 j.id = none)
def DrF (ds : List Dr) (j : Jb) : Prop := ∃ d, at1 ds j.draft = some d ∧ (ze2 j = true → d.busy = j.id)
abbrev Pl (j : Jb) : Bool := decide (j.st ≤ 3)
abbrev live (js : List Jb) : Nat := (za6 Pl (·.id) js).length
structure WV (C : Kt) (M : Nat) (N : Int) (s : Wk) : Prop where
 wt : WT C s
 pinv : PInv s.p 562
 plen : s.p.length ≤ 4
 binv : BInv s.b
 blen : s.b.length ≤ M
 nx : s.next ≤ N
 dnum : DNum s.ds
 dlen : s.ds.length ≤ 64
 glen : s.g = (s.ds.length : Int)
 dok : ∀ d ∈ s.ds, isD d = true ∧ 1 ≤ d.own ∧ ∃ b, at1 C.bl d.blue = some b
 dr : ∀ (i : Nat) (j : Jb), s.js[i]? = some j → DrF s.ds j
 mark : ∀ (i : Nat) (j : Jb), s.js[i]? = some j → MkF s.Lg j
 mlen : s.Lg.length + live s.js = s.js.length
 mid : ∀ m ∈ s.Lg, m.2.2.1 ≤ (s.js.length : Int)
section
variable {C : Kt} {s s' : Wk} {now : Int} {M : Nat} {N : Int}
theorem WV.wb (h : WV C M N s) (hC : KtC C) (hM : M ≤ 700000) (hN : N < 1099511627776) : WB C s where
 cat := hC.ok
 pinv := h.pinv
 plen := by have := h.plen; omega
 binv := h.binv
 blen := by have := h.blen; omega
 dnum := h.dnum
 dlen := by have := h.dlen; omega
 glen := h.glen
 dok d hd := ⟨(h.dok d hd).1, (h.dok d hd).2.1⟩
 jok := h.wt.jok
 jlen := h.wt.jlen
 l4 := h.wt.l4
 lsz x hx := by
  have h1 := h.wt.rlen hx
  exact ⟨by omega, by omega, h.wt.room x hx⟩
 ids := h.wt.ids
 Tlen := by have := h.wt.Tlen; omega
 nx := by have := h.nx; omega
theorem WV.up {M' : Nat} {N' : Int} (h : WV C M N s) (hM : M ≤ M') (hN : N ≤ N') : WV C M' N' s := { h with blen := by have := h.blen; omega, nx := by have := h.nx; omega }
theorem WV.hdr (h : WV C M N s) (hC : KtC C) (i : Nat) (j : Jb) (hg : s.js[i]? = some j) : ∃ d b, at1 s.ds j.draft = some d ∧ at1 C.bl d.blue = some b ∧ zd2 b 32 = 0 := by
 obtain ⟨d, hd, -⟩ := h.dr i j hg
 obtain ⟨m, hm, -⟩ := zcb hd
 obtain ⟨b, hb⟩ := (h.dok d (zzf hm)).2.2
 obtain ⟨n, hn, -⟩ := zcb hb
 exact ⟨d, b, hd, hb, hC.blue b (zzf hn)⟩
theorem zdu {e : Jb} (h : js[i]? = some j) : live (js.set i e) + (if j.st ≤ 3 then 1 else 0) = live js + (if e.st ≤ 3 then 1 else 0) := by
 obtain ⟨r, r1, r2, r3⟩ := zc4 (P := Pl) (f := (·.id)) h
 unfold live
 by_cases h1 : j.st ≤ 3 <;> by_cases h2 : e.st ≤ 3
 · rw [if_pos h1, if_pos h2, (r1 (by simpa using h1)).length_eq, ((r3 e).1 (by simpa using h2)).length_eq] <;> simp
 · rw [if_pos h1, if_neg h2, (r1 (by simpa using h1)).length_eq, ((r3 e).2 (by simpa using h2)).length_eq] <;> simp
 · rw [if_neg h1, if_pos h2, (r2 (by simpa using h1)).length_eq, ((r3 e).1 (by simpa using h2)).length_eq] <;> simp
 · rw [if_neg h1, if_neg h2, (r2 (by simpa using h1)).length_eq, ((r3 e).2 (by simpa using h2)).length_eq] <;> simp
theorem zsj (h : js[i]? = some j) (he : jE 1 j now = 0) : live (js.set i (jDo 1 j now)) = live js := by
 have h1 := zdu (e := jDo 1 j now) h
 have hs := (zgs he).2
 rw [if_pos (by omega), if_pos (by show (2 : Int) ≤ 3; omega)] at h1
 omega
theorem zjl {Lg : List Mk} (he : jE 1 j now = 0) (h : MkF Lg j) : MkF Lg (jDo 1 j now) := by
 have hs := (zgs he).2
 refine ⟨fun h4 => ?_, fun h6 => ?_, fun _ => h.2.2 (by omega)⟩
 · have h4 : (2 : Int) = 4 ∨ (2 : Int) = 5 := h4; omega
 · have h6 : (2 : Int) = 6 := h6; omega
theorem zjm (he : jE 1 j now = 0) (h : DrF ds j) : DrF ds (jDo 1 j now) := by
 obtain ⟨d, h1, h2⟩ := h
 have hs := (zgs he).2
 exact ⟨d, h1, fun _ => h2 (by unfold ze2; rw [hs]; rfl)⟩
theorem zel (h : ∀ (m : Nat) (a : Jb), m ≠ i → js[m]? = some a → P a) (h2 : P j2) : ∀ (m : Nat) (a : Jb), (js.set i j2)[m]? = some a → P a := fun m a ha => by
 rw [List.getElem?_set] at ha
 split at ha
 · split at ha
   · cases ha; exact h2
   · cases ha
 · rename_i hne
   exact h m a (fun e => hne e.symm) ha
theorem LvR.all (h : LvR s i j2 now s') (hP : ∀ (m : Nat) (a : Jb), m ≠ i → s.js[m]? = some a → P a) (h2 : P j2) (h1 : ∀ a, jE 1 a now = 0 → P a → P (jDo 1 a now)) : ∀ (m : Nat) (a : Jb), s'.js[m]? = some a → P a := by
 rcases h.js with e | ⟨m, a, hne, ha, hae, e⟩
 · rw [e]; exact zel hP h2
 · rw [e]
   exact zel (fun n b hn hb => zel hP h2 n b hb) (h1 a hae (hP m a hne ha))
theorem LvR.live (h : LvR s i j2 now s') (hg : s.js[i]? = some j) : live s'.js = live (s.js.set i j2) ∧ s'.js.length = s.js.length := by
 rcases h.js with e | ⟨m, a, hne, ha, hae, e⟩
 · rw [e]; exact ⟨rfl, by simp⟩
 · rw [e]
   exact ⟨zsj (by rw [zz0 (Ne.symm hne)]; exact ha) hae, by simp⟩
theorem AsR.all (h : AsR s i j now s') (hP : ∀ (m : Nat) (a : Jb), s.js[m]? = some a → P a) (h1 : P (jDo 1 j now)) : ∀ (m : Nat) (a : Jb), s'.js[m]? = some a → P a := by
 rcases h.js with e | e
 · rw [e]; exact hP
 · rw [e]; exact zel (fun n b _ hb => hP n b hb) h1
theorem AsR.live (h : AsR s i j now s') (hg : s.js[i]? = some j) (he : jE 1 j now = 0) : live s'.js = live s.js ∧ s'.js.length = s.js.length := by
 rcases h.js with e | e
 · rw [e]; exact ⟨rfl, rfl⟩
 · rw [e]; exact ⟨zsj hg he, by simp⟩
theorem zy3 (h : WV C M N s) (hg : s.js[i]? = some j) (hs : 1 ≤ j.st ∧ j.st ≤ 3) {a st : Int} (ha : 0 ≤ a ∧ a ≤ 1099511627776) (hst : st = 4 ∨ st = 6) (hl : zcl s.Lg ≤ a) : znd s.Lg (a, 1, j.id, st) = s.Lg ++ [(a, 1, j.id, st)] := by
 have hid := (h.wt.jok i j hg).2.1
 have hlt := (zza.1 hg).1
 have hj := h.wt.jlen
 have hm := (h.mark i j hg).2.2 hs
 have hml := h.mlen
 unfold znd
 rw [if_pos]
 unfold zf9
 rw [if_pos ⟨⟨by simpa using ha.1, by simpa using ha.2, by simp only; omega, by simp only; omega, .inl ⟨rfl, by simpa using hst⟩⟩, by simpa using hl⟩]
 rw [show ofM s.Lg ((a, 1, j.id, st) : Mk).2.1 ((a, 1, j.id, st) : Mk).2.2.1 = none from hm]
 rw [if_neg (by simp), if_neg (by omega)]
theorem zte {Lg : List Mk} {a st id : Int} {b : Jb} (hne : b.id ≠ id) (h : MkF Lg b) : MkF (Lg ++ [(a, 1, id, st)]) b := by
 refine ⟨fun h4 => ?_, fun h6 => ?_, fun h3 => ?_⟩
 · rw [zfw, h.1 h4]
 · obtain ⟨c, hc⟩ := h.2.1 h6
   exact ⟨c, by rw [zfw, hc]⟩
 · rw [zfw, h.2.2 h3]
   simp only
   rw [if_neg]
   rintro ⟨-, hh⟩
   exact hne hh.symm
theorem WV.idne (h : WV C M N s) {m : Nat} {a : Jb} (hg : s.js[i]? = some j) (hm : s.js[m]? = some a) (hne : m ≠ i) : a.id ≠ j.id := by
 have h1 := (h.wt.jok i j hg).2.1
 have h2 := (h.wt.jok m a hm).2.1
 omega
theorem jOpen_iff : ze2 j = true ↔ 1 ≤ j.st ∧ j.st ≤ 4 := by unfold ze2; exact inJ_iff
theorem WV.only (h : WV C M N s) {m : Nat} {a : Jb} (hg : s.js[i]? = some j) (hm : s.js[m]? = some a) (hne : m ≠ i) (h1 : ze2 j = true) (h2 : ze2 a = true) : a.draft ≠ j.draft := fun e => by
 obtain ⟨d, hd, hb⟩ := h.dr i j hg
 obtain ⟨d2, hd2, hb2⟩ := h.dr m a hm
 rw [e, hd] at hd2
 cases hd2
 exact h.idne hg hm hne (by rw [← hb h1, ← hb2 h2])
end
end
section
set_option maxRecDepth 100000
section
variable {C : Kt} {s s' : Wk} {now : Int} {M : Nat} {N : Int}
theorem WV.pause (h : WV C M N s) (hg : s.js[i]? = some j) (he : jE 2 j now = 0) (hL : Lvs { s with js := s.js.set i (jDo 2 j now) } j.id now s') : WV C M (N + 1) s' ∧ LvR s i (jDo 2 j now) now s' := by
 obtain ⟨hok, hst⟩ := jDo2_ok he
 obtain ⟨wt, R⟩ := h.wt.leave hg hok rfl rfl (by show (3 : Int) ≠ 1 ∧ (3 : Int) ≠ 2; omega) hL
 obtain ⟨v1, v2⟩ := R.live hg
 have hls := zdu (e := jDo 2 j now) hg
 rw [if_pos (by omega), if_pos (by show (3 : Int) ≤ 3; omega)] at hls
 refine ⟨?_, R⟩
 exact {
  wt := wt
  pinv := by rw [R.p]; exact h.pinv
  plen := by rw [R.p]; exact h.plen
  binv := by rw [R.b]; exact h.binv
  blen := by rw [R.b]; exact h.blen
  nx := by have := R.nx; have := h.nx; omega
  dnum := by rw [R.ds]; exact h.dnum
  dlen := by rw [R.ds]; exact h.dlen
  glen := by rw [R.ds, R.g]; exact h.glen
  dok := by rw [R.ds]; exact h.dok
  dr := by
   rw [R.ds]
   refine R.all (fun m a _ ha => h.dr m a ha) ?_ fun a => zjm
   obtain ⟨d, h1, h2⟩ := h.dr i j hg
   exact ⟨d, h1, fun _ => h2 (jOpen_iff.2 (by omega))⟩
  mark := by
   rw [R.Lg]
   refine R.all (fun m a _ ha => h.mark m a ha) ?_ fun a => zjl
   have h3 := (h.mark i j hg).2.2 (by omega)
   exact ⟨fun h4 => by have h4 : (3 : Int) = 4 ∨ (3 : Int) = 5 := h4; omega, fun h6 => by have h6 : (3 : Int) = 6 := h6; omega, fun _ => h3⟩
  mlen := by rw [R.Lg, v1, v2]; have := h.mlen; omega
  mid := by rw [R.Lg, v2]; exact h.mid }
theorem WV.fire (h : WV C M N s) (hg : s.js[i]? = some j) (he : jE 4 j now = 0) (hfin : now = j.fin) (hl : zcl s.Lg ≤ now) (hL : Lvs { s with js := s.js.set i (jDo 4 j now) } j.id now s') :
 znd s'.Lg (now, 1, j.id, 4) = s.Lg ++ [(now, 1, j.id, 4)] ∧ WV C M (N + 1) { s' with Lg := s.Lg ++ [(now, 1, j.id, 4)] } ∧ LvR s i (jDo 4 j now) now s' := by
 obtain ⟨hok, hst, -⟩ := jDo4_ok he
 have ht := inJ_iff.1 (jE_zero.1 he).2.1
 obtain ⟨wt, R⟩ := h.wt.leave hg hok rfl rfl (by show (4 : Int) ≠ 1 ∧ (4 : Int) ≠ 2; omega) hL
 obtain ⟨v1, v2⟩ := R.live hg
 have hls := zdu (e := jDo 4 j now) hg
 rw [if_pos (by omega), if_neg (by show ¬ (4 : Int) ≤ 3; omega)] at hls
 have ea : znd s'.Lg (now, 1, j.id, 4) = s.Lg ++ [(now, 1, j.id, 4)] := by rw [R.Lg]; exact zy3 h hg (by omega) ht (.inl rfl) hl
 have hlt := (zza.1 hg).1
 have hid := (h.wt.jok i j hg).2.1
 refine ⟨ea, ?_, R⟩
 exact {
  wt := wt.congr rfl rfl rfl rfl
  pinv := by show PInv s'.p 562; rw [R.p]; exact h.pinv
  plen := by show s'.p.length ≤ 4; rw [R.p]; exact h.plen
  binv := by show BInv s'.b; rw [R.b]; exact h.binv
  blen := by show s'.b.length ≤ M; rw [R.b]; exact h.blen
  nx := by show s'.next ≤ N + 1; have := R.nx; have := h.nx; omega
  dnum := by show DNum s'.ds; rw [R.ds]; exact h.dnum
  dlen := by show s'.ds.length ≤ 64; rw [R.ds]; exact h.dlen
  glen := by show s'.g = (s'.ds.length : Int); rw [R.ds, R.g]; exact h.glen
  dok := by show ∀ d ∈ s'.ds, _; rw [R.ds]; exact h.dok
  dr := by
   show ∀ (i : Nat) (j : Jb), s'.js[i]? = some j → DrF s'.ds j
   rw [R.ds]
   refine R.all (fun m a _ ha => h.dr m a ha) ?_ fun a => zjm
   obtain ⟨d, h1, h2⟩ := h.dr i j hg
   exact ⟨d, h1, fun _ => h2 (jOpen_iff.2 (by omega))⟩
  mark := by
   refine R.all (fun m a hne ha => zte (h.idne hg ha hne) (h.mark m a ha)) ?_ fun a => zjl
   have h3 := (h.mark i j hg).2.2 (by omega)
   refine ⟨fun _ => ?_, fun h6 => by have h6 : (4 : Int) = 6 := h6; omega, fun h4 => by have h4 : 1 ≤ (4 : Int) ∧ (4 : Int) ≤ 3 := h4; omega⟩
   show ofM (s.Lg ++ [(now, 1, j.id, 4)]) 1 j.id = some (j.fin, 1, j.id, 4)
   rw [zfw, h3]
   simp only
   rw [if_pos ⟨trivial, trivial⟩, hfin]
  mlen := by
   show (s.Lg ++ [(now, 1, j.id, 4)]).length + live s'.js = s'.js.length
   rw [v1, v2, zzx, List.length_singleton]
   have := h.mlen
   omega
  mid := fun m hm => by
   show m.2.2.1 ≤ (s'.js.length : Int)
   rw [v2]
   rcases zzh.1 hm with hm | hm
   · exact h.mid m hm
   · rw [z03.1 hm]
     simp only
     omega }
theorem WV.resume (h : WV C M N s) (hg : s.js[i]? = some j) (he : jE 3 j 0 = 0) (ht : 0 ≤ now ∧ now ≤ 1099511627776) (hat : jAt j = (k : Int)) (hx : s.l[k]? = some x)
 (hA : Asks { s with js := s.js.set i (jDo 3 j 0) } k x i (jDo 3 j 0) now s') : WV C M (N + 1) s' ∧ AsR { s with js := s.js.set i (jDo 3 j 0) } i (jDo 3 j 0) now s' := by
 have hlt := (zza.1 hg).1
 have hst := zxt (jE_zero.1 he).2.2
 have hE := jE_res he ht
 have hgs : (s.js.set i (jDo 3 j 0))[i]? = some (jDo 3 j 0) := z0f hlt
 obtain ⟨wt, R⟩ := WT.asks (C := C) (s0 := { s with js := s.js.set i (jDo 3 j 0) }) hx (h.wt.queue hg (zxs he) rfl rfl (by omega) rfl hx hat) hgs hE hA
 obtain ⟨v1, v2⟩ := R.live hgs hE
 have hls := zdu (e := jDo 3 j 0) hg
 rw [if_pos (by omega), if_pos (by show (1 : Int) ≤ 3; omega)] at hls
 have v1' : live s'.js = live (s.js.set i (jDo 3 j 0)) := v1
 have v2' : s'.js.length = s.js.length := by rw [v2]; simp
 refine ⟨?_, R⟩
 have dj : DrF s.ds (jDo 3 j 0) := by
  obtain ⟨d, h1, h2⟩ := h.dr i j hg
  exact ⟨d, h1, fun _ => h2 (jOpen_iff.2 (by omega))⟩
 have mj : MkF s.Lg (jDo 3 j 0) := by
  have h3 := (h.mark i j hg).2.2 (by omega)
  exact ⟨fun h4 => by have h4 : (1 : Int) = 4 ∨ (1 : Int) = 5 := h4; omega, fun h6 => by have h6 : (1 : Int) = 6 := h6; omega, fun _ => h3⟩
 exact {
  wt := wt
  pinv := by rw [R.p]; exact h.pinv
  plen := by rw [R.p]; exact h.plen
  binv := by rw [R.b]; exact h.binv
  blen := by rw [R.b]; exact h.blen
  nx := by have h1 : s'.next ≤ s.next + 1 := R.nx; have := h.nx; omega
  dnum := by rw [R.ds]; exact h.dnum
  dlen := by rw [R.ds]; exact h.dlen
  glen := by rw [R.ds, R.g]; exact h.glen
  dok := by rw [R.ds]; exact h.dok
  dr := by
   rw [R.ds]
   exact R.all (zel (fun m a _ ha => h.dr m a ha) dj) (zjm hE dj)
  mark := by
   rw [R.Lg]
   exact R.all (zel (fun m a _ ha => h.mark m a ha) mj) (zjl hE mj)
  mlen := by
   rw [R.Lg, v1', v2']
   have := h.mlen
   show s.Lg.length + _ = _
   omega
  mid := by rw [R.Lg, v2']; exact h.mid }
theorem zx8 (h : WV C M N s) (hg : s.js[i]? = some j) (runs : Int) : DNum (zdx s.ds j.draft j.id runs) ∧ (zdx s.ds j.draft j.id runs).length = s.ds.length ∧ (∀ d ∈ zdx s.ds j.draft j.id runs, isD d = true ∧ 1 ≤ d.own ∧ ∃ b, at1 C.bl d.blue = some b) ∧
 (ze2 j = true → ∀ (m : Nat) (a : Jb), m ≠ i → s.js[m]? = some a → DrF (zdx s.ds j.draft j.id runs) a) ∧ ∃ d, at1 (zdx s.ds j.draft j.id runs) j.draft = some d := by
 obtain ⟨d, hd, hb⟩ := h.dr i j hg
 obtain ⟨n, hn, hdn⟩ := zcb hd
 have hdo := h.dok d (zzf hn)
 unfold zdx
 rw [hd]
 simp only
 split
 · rename_i hf
   have en : (j.draft - 1).toNat = n := by omega
   have hI : isD (zo3 d runs) = true := by
    have h1 := zf2 hdo.1
    unfold zub at hf
    split at hf
    · cases hf
    · rename_i hu
      have hu : zhf j.id runs = true := by simpa using hu
      unfold zhf at hu
      simp only [zy9, inJ_iff] at hu
      split at hf
      · cases hf
      · split at hf
        · cases hf
        · rename_i h3
          unfold isD zo3
          simp only [zy9, inJ_iff]
          refine ⟨⟨h1.1, h1.2.1, h1.2.2.1⟩, ⟨h1.2.2.2.1, h1.2.2.2.2.1, h1.2.2.2.2.2.1, ?_⟩, by omega⟩
          split <;> omega
   rw [en]
   refine ⟨h.dnum.set hn rfl, by simp, fun x hx => ?_, fun ho m a hne ha => ?_, ?_⟩
   · rcases z2h hx with hx | rfl
     · exact h.dok x hx
     · exact ⟨hI, hdo.2.1, hdo.2.2⟩
   · obtain ⟨d2, hd2, hb2⟩ := h.dr m a ha
     have := znb (d' := zo3 d runs) hd a.draft d2 hd2
     rw [en] at this
     refine ⟨_, this, fun ho2 => ?_⟩
     rw [if_neg (h.only hg ha hne ho ho2)]
     exact hb2 ho2
   · have := znb (d' := zo3 d runs) hd j.draft d hd
     rw [en] at this
     exact ⟨_, this⟩
 · exact ⟨h.dnum, rfl, h.dok, fun _ m a _ ha => h.dr m a ha, d, hd⟩
theorem backB_ty (hb : BInv s.b) (j : Jb) (t : Int) : tyQ t (zj4 C j s.b) = tyQ t s.b := by
 unfold zj4
 rw [zl5 t (hb.rmv _).srt]
 exact zpq _ _ _
theorem WV.cancel (h : WV C M N s) (hg : s.js[i]? = some j) (he : jE 6 j 0 = 0) (ht : 0 ≤ now ∧ now ≤ 1099511627776) (hl : zcl s.Lg ≤ now) (hbi : BInv (zj4 C j s.b)) (hbl : (zj4 C j s.b).length ≤ s.b.length) (hL : Lvs (canW C s i j) j.id now s') :
 znd s'.Lg (now, 1, j.id, 6) = s.Lg ++ [(now, 1, j.id, 6)] ∧ WV C M (N + 1) { s' with Lg := s.Lg ++ [(now, 1, j.id, 6)] } ∧ (∀ t, tyQ t s'.b = tyQ t s.b) ∧ ∀ t ∈ s'.T, t ∈ s.T ∨ now < t.1 := by
 obtain ⟨hok, hst⟩ := jDo6_ok he
 obtain ⟨f1, f2, f3, f4, f5⟩ := zx8 h hg (zbm j)
 have wt0 : WT C { s with b := zj4 C j s.b, ds := zdx s.ds j.draft j.id (zbm j) } := h.wt.congr rfl rfl rfl rfl
 obtain ⟨wt, R⟩ := wt0.leave hg hok rfl rfl (by show (6 : Int) ≠ 1 ∧ (6 : Int) ≠ 2; omega) hL
 obtain ⟨v1, v2⟩ := R.live hg
 have v1' : live s'.js = live (s.js.set i (jDo 6 j 0)) := v1
 have v2' : s'.js.length = s.js.length := v2
 have hls := zdu (e := jDo 6 j 0) hg
 rw [if_pos (by omega), if_neg (by show ¬ (6 : Int) ≤ 3; omega)] at hls
 have eLg : s'.Lg = s.Lg := R.Lg
 have eb : s'.b = zj4 C j s.b := R.b
 have ep : s'.p = s.p := R.p
 have eds : s'.ds = zdx s.ds j.draft j.id (zbm j) := R.ds
 have eg : s'.g = s.g := R.g
 have ea : znd s'.Lg (now, 1, j.id, 6) = s.Lg ++ [(now, 1, j.id, 6)] := by rw [eLg]; exact zy3 h hg hst ht (.inr rfl) hl
 have hlt := (zza.1 hg).1
 have hid := (h.wt.jok i j hg).2.1
 have ho : ze2 j = true := jOpen_iff.2 (by omega)
 refine ⟨ea, ?_, fun t => by rw [eb]; exact backB_ty h.binv j t, R.due⟩
 exact {
  wt := wt.congr rfl rfl rfl rfl
  pinv := by show PInv s'.p 562; rw [ep]; exact h.pinv
  plen := by show s'.p.length ≤ 4; rw [ep]; exact h.plen
  binv := by show BInv s'.b; rw [eb]; exact hbi
  blen := by show s'.b.length ≤ M; rw [eb]; have := h.blen; omega
  nx := by show s'.next ≤ N + 1; have h1 : s'.next ≤ s.next + 1 := R.nx; have := h.nx; omega
  dnum := by show DNum s'.ds; rw [eds]; exact f1
  dlen := by show s'.ds.length ≤ 64; rw [eds, f2]; exact h.dlen
  glen := by show s'.g = (s'.ds.length : Int); rw [eds, eg, f2]; exact h.glen
  dok := by show ∀ d ∈ s'.ds, _; rw [eds]; exact f3
  dr := by
   show ∀ (i : Nat) (j : Jb), s'.js[i]? = some j → DrF s'.ds j
   rw [eds]
   refine R.all (fun m a hne ha => f4 ho m a hne ha) ?_ fun a => zjm
   obtain ⟨d, h1⟩ := f5
   exact ⟨d, h1, fun h2 => by have h2 := jOpen_iff.1 h2; have h2 : 1 ≤ (6 : Int) ∧ (6 : Int) ≤ 4 := h2; omega⟩
  mark := by
   refine R.all (fun m a hne ha => zte (h.idne hg ha hne) (h.mark m a ha)) ?_ fun a => zjl
   have h3 := (h.mark i j hg).2.2 hst
   refine ⟨fun h4 => by have h4 : (6 : Int) = 4 ∨ (6 : Int) = 5 := h4; omega, fun _ => ⟨now, ?_⟩, fun h4 => by have h4 : 1 ≤ (6 : Int) ∧ (6 : Int) ≤ 3 := h4; omega⟩
   show ofM (s.Lg ++ [(now, 1, j.id, 6)]) 1 j.id = some (now, 1, j.id, 6)
   rw [zfw, h3]
   simp only
   rw [if_pos ⟨trivial, trivial⟩]
  mlen := by
   show (s.Lg ++ [(now, 1, j.id, 6)]).length + live s'.js = s'.js.length
   rw [v1', v2', zzx, List.length_singleton]
   have := h.mlen
   omega
  mid := fun m hm => by
   show m.2.2.1 ≤ (s'.js.length : Int)
   rw [v2']
   rcases zzh.1 hm with hm | hm
   · exact h.mid m hm
   · rw [z03.1 hm]
     simp only
     omega }
end
end
section
set_option maxRecDepth 100000
section
variable {C : Kt} {s s' : Wk} {now : Int} {M : Nat} {N : Int}
theorem zks (h : Gives C s j d b e s') (hb : BInv s.b) : BInv s'.b ∧ s'.b.length ≤ s.b.length + 1 := by
 cases h with
 | over => exact ⟨hb, z0u _⟩
 | made h1 h2 h3 =>
   refine ⟨h3, ?_⟩
   have h4 := zhv (k := bin ⟨j.own, j.div, zbl C j, 1⟩ b.makes) (v := zan (bin ⟨j.own, j.div, zbl C j, 1⟩ b.makes) (rmv (vK j.id (zbl C j)) s.b) + b.per * j.runs) (l := rmv (vK j.id (zbl C j)) s.b)
   have h5 : (rmv (vK j.id (zbl C j)) s.b).length ≤ s.b.length := z0n _ _
   show (ze1 _ _ _).length ≤ _
   omega
 | me => exact ⟨hb, z0u _⟩
 | te => exact ⟨hb, z0u _⟩
 | full => exact ⟨hb, z0u _⟩
 | cop => exact ⟨hb, z0u _⟩
theorem WV.given (h : WV C M N s) (F : GivF s s') (hb : BInv s'.b) (hbl : s'.b.length ≤ s.b.length + 1) : WV C (M + 1) N s' where
 wt := h.wt.congr F.l F.T F.next F.js
 pinv := by rw [F.p]; exact h.pinv
 plen := by rw [F.p]; exact h.plen
 binv := hb
 blen := by have := h.blen; omega
 nx := by rw [F.next]; exact h.nx
 dnum := F.dnum
 dlen := by have := h.dlen; rcases F.dlen with h | h <;> omega
 glen := F.glen
 dok d hd := by
  obtain ⟨h1, d0, h2, h3, h4⟩ := F.dok d hd
  have := h.dok d0 h2
  exact ⟨h1, by rw [h3]; exact this.2.1, by rw [h4]; exact this.2.2⟩
 dr i j hg := by
  rw [F.js] at hg
  obtain ⟨d, h1, h2⟩ := h.dr i j hg
  obtain ⟨d', h3, h4⟩ := F.old _ d h1
  exact ⟨d', h3, fun ho => by rw [h4]; exact h2 ho⟩
 mark := by rw [F.js, F.Lg]; exact h.mark
 mlen := by rw [F.js, F.Lg]; exact h.mlen
 mid := by rw [F.js, F.Lg]; exact h.mid
theorem WV.deliver (h : WV C M N s) (hg : s.js[i]? = some j) (he : jE 5 j 0 = 0) : WV C M N { s with ds := zdx s.ds j.draft j.id 0, js := s.js.set i (jDo 5 j 0) } := by
 obtain ⟨hok, hst⟩ := jDo5_ok he
 obtain ⟨f1, f2, f3, f4, f5⟩ := zx8 h hg 0
 have hls := zdu (e := jDo 5 j 0) hg
 rw [if_neg (by omega), if_neg (by show ¬ (5 : Int) ≤ 3; omega)] at hls
 have ho : ze2 j = true := jOpen_iff.2 (by omega)
 have hT : TimF s.T (2 * j.id) s.T := .inr ⟨fun t ht e => by have := (h.wt.timS hg ht e).2; omega, rfl⟩
 exact {
  wt := (h.wt.out hg hok rfl rfl (by show (5 : Int) ≠ 1 ∧ (5 : Int) ≠ 2; omega) (by omega) hT).congr rfl rfl rfl rfl
  pinv := h.pinv
  plen := h.plen
  binv := h.binv
  blen := h.blen
  nx := h.nx
  dnum := f1
  dlen := by show (zdx s.ds j.draft j.id 0).length ≤ 64; rw [f2]; exact h.dlen
  glen := by show s.g = ((zdx s.ds j.draft j.id 0).length : Int); rw [f2]; exact h.glen
  dok := f3
  dr := zel (fun m a hne ha => f4 ho m a hne ha) (by
   obtain ⟨d, h1⟩ := f5
   exact ⟨d, h1, fun h2 => by have h2 := jOpen_iff.1 h2; have h2 : 1 ≤ (5 : Int) ∧ (5 : Int) ≤ 4 := h2; omega⟩)
  mark := zel (fun m a _ ha => h.mark m a ha) (by
   have h3 := (h.mark i j hg).1 (.inl hst)
   exact ⟨fun _ => h3, fun h6 => by have h6 : (5 : Int) = 6 := h6; omega, fun h4 => by have h4 : 1 ≤ (5 : Int) ∧ (5 : Int) ≤ 3 := h4; omega⟩)
  mlen := by
   show s.Lg.length + live (s.js.set i (jDo 5 j 0)) = (s.js.set i (jDo 5 j 0)).length
   rw [z0b]
   have := h.mlen
   omega
  mid := by
   show ∀ m ∈ s.Lg, m.2.2.1 ≤ ((s.js.set i (jDo 5 j 0)).length : Int)
   rw [z0b]
   exact h.mid }
theorem zyz (h : ∀ (m : Nat) (a : Jb), js[m]? = some a → P a) (h2 : P j) : ∀ (m : Nat) (a : Jb), (js ++ [j])[m]? = some a → P a := fun m a ha => by
 rcases zzh.1 (zzf ha) with hm | hm
 · obtain ⟨n, hn⟩ := z0e.1 hm
   exact h n a hn
 · rw [z03.1 hm]; exact h2
theorem WV.inst (h : WV C M N s) (hC : KtC C) {y : Yb} {p' b' : Tb} (hi : s.ds[i]? = some d) (hdn : o.draft = (i : Int) + 1) (F : InsF C s now o y d b k x j p' b') (hA : Asks (insW s i d j p' b') k x s.js.length j now s') :
 WV C (M + 16) (N + 1) s' ∧ (∀ t, tyQ t s'.b = tyQ t s.b) ∧ ∀ t ∈ s'.T, t ∈ s.T ∨ now < t.1 := by
 have hj := F.job
 have hjid : j.id = (s.js.length : Int) + 1 := by rw [hj]; rfl
 have hjdr : j.draft = o.draft := by rw [hj]; rfl
 have hjst : j.st = 1 := by rw [hj]; rfl
 have hjbay : j.bay = o.bay := by rw [hj]; rfl
 have hjneeds : j.needs = (zcj b d o).1 := by rw [hj]; rfl
 have hlen := F.len
 have hat1 : at1 s.ds o.draft = some d := zam hi hdn
 have hE : jE 1 j now = 0 := jE_zero.2 ⟨F.ok, inJ_iff.2 F.find.t, by unfold zmu; rw [hjst]; rfl⟩
 have hdok := h.dok d (zzf hi)
 have hb2 : 1 ≤ j.bay ∧ j.bay ≤ 2 := by
  obtain ⟨n, hn, hn2⟩ := zcb F.find.bay
  have h1 := (zza.1 hn).1
  have h2 := hC.ok.bays
  omega
 have hgs : (s.js ++ [j])[s.js.length]? = some j := by simp
 obtain ⟨wt, R⟩ := WT.asks (C := C) (s0 := insW s i d j p' b') F.side ((h.wt.more F.ok hjid hb2 hjst hlen F.side F.at1).congr rfl rfl rfl rfl) hgs hE hA
 obtain ⟨v1, v2⟩ := R.live hgs hE
 have v1' : live s'.js = live s.js + 1 := by
  rw [v1]
  show live (s.js ++ [j]) = _
  unfold live
  rw [zci, zib _ (show Pl j = true by simp [hjst])]
  simp [za6]
 have v2' : s'.js.length = s.js.length + 1 := by rw [v2]; simp
 have eLg : s'.Lg = s.Lg := R.Lg
 have eb : s'.b = b' := R.b
 have ep : s'.p = p' := R.p
 have eds : s'.ds = s.ds.set i (zun d ((s.js.length : Int) + 1) (zbm j)) := R.ds
 have eg : s'.g = s.g := R.g
 have hnb := (zcn F.plan).1
 have hmade : 0 ≤ zbm j ∧ zbm j ≤ 1000 ∧ (d.runs = -1 ∨ zbm j ≤ d.runs) := by
  have e1 : j.kind = o.kind := by rw [hj]; rfl
  have e2 : j.runs = o.runs := by rw [hj]; rfl
  unfold zbm zcd at *
  split
  · rename_i h; rw [e1] at h; rw [e2]; omega
  · rename_i h; rw [e1] at h; omega
 have hI : isD (zun d ((s.js.length : Int) + 1) (zbm j)) = true := by
  have h1 := zf2 hdok.1
  unfold isD zun
  simp only [zy9, inJ_iff]
  refine ⟨⟨h1.1, h1.2.1, h1.2.2.1⟩, ⟨h1.2.2.2.1, h1.2.2.2.2.1, h1.2.2.2.2.2.1, ?_⟩, by omega⟩
  split <;> omega
 have hset : ∀ (n : Int) (z : Dr), at1 s.ds n = some z → at1 (s.ds.set i (zun d ((s.js.length : Int) + 1) (zbm j))) n = some (if n = o.draft then zun d ((s.js.length : Int) + 1) (zbm j) else z) := fun n z hz => by
  have := znb (d' := zun d ((s.js.length : Int) + 1) (zbm j)) hat1 n z hz
  rwa [show (o.draft - 1).toNat = i by omega] at this
 have dj : DrF (s.ds.set i (zun d ((s.js.length : Int) + 1) (zbm j))) j := ⟨_, by rw [hjdr]; exact hset _ d hat1, fun _ => by rw [if_pos rfl, hjid]; rfl⟩
 have mj : MkF s.Lg j := by
  refine ⟨fun h4 => by omega, fun h6 => by omega, fun _ => ?_⟩
  unfold ofM
  refine z2p.2 fun m hm hh => ?_
  have := h.mid m hm
  simp only [zy9, beq_iff_eq] at hh
  omega
 refine ⟨?_, fun t => ?_, R.due⟩
 · exact {
    wt := wt
    pinv := by rw [ep]; exact F.pinv
    plen := by rw [ep, F.plen]; exact h.plen
    binv := by rw [eb]; exact F.binv
    blen := by rw [eb]; have := F.blen; have := h.blen; omega
    nx := by have h1 : s'.next ≤ s.next + 1 := R.nx; have := h.nx; omega
    dnum := by rw [eds]; exact h.dnum.set hi rfl
    dlen := by rw [eds, z0b]; exact h.dlen
    glen := by rw [eds, eg, z0b]; exact h.glen
    dok := by
     rw [eds]
     intro z hz
     rcases z2h hz with hz | rfl
     · exact h.dok z hz
     · exact ⟨hI, hdok.2.1, hdok.2.2⟩
    dr := by
     rw [eds]
     refine R.all (zyz (fun m a ha => ?_) dj) (zjm hE dj)
     obtain ⟨z, hz, hzb⟩ := h.dr m a ha
     refine ⟨_, hset _ z hz, fun ho => ?_⟩
     by_cases e : a.draft = o.draft
     · rw [e, hat1] at hz
       cases hz
       have := hzb ho
       rw [F.busy] at this
       have := (h.wt.jok m a ha).2.1
       omega
     · rw [if_neg e]; exact hzb ho
    mark := by
     rw [eLg]
     exact R.all (zyz (fun m a ha => h.mark m a ha) mj) (zjl hE mj)
    mlen := by rw [eLg, v1', v2']; have := h.mlen; omega
    mid := by rw [eLg, v2']; intro m hm; have := h.mid m hm; omega }
 · rw [eb]
   obtain ⟨l1, h1, h2, h3⟩ := F.bins
   rw [h3, zl5 t h2.srt]
   have hnd := (zmm (zcn F.plan).2.1).1
   rw [← hjneeds] at hnd
   obtain ⟨l2, g1, -, g3⟩ := zh6 h.binv.srt (zjc hnd) F.lie
   rw [h1] at g1
   cases g1
   rw [g3]
   omega
end
end
section
set_option maxRecDepth 1000000
abbrev blW : List (List U) := [[.n 3, .n 2, .n 10, .l 2 [[.n 1, .n 3], [.n 2, .n 1]], .n 2, .n 3, .n 5], [.n 4, .n 1, .n 7, .l 2 [[.n 3, .n 2]], .n 0, .n 0, .n 3]]
abbrev byW (a b c : Int) : List (List U) := [[.n 1, .n a, .n 1, .n 1000], [.n b, .n 1, .n c, .n 0]]
abbrev caW (a b c : Int) : V := .a [.i 4, .l 7 blW, .i 2, .l 4 (byW a b c), .i 3, .i 200, .i 1, .i 500]
def w1 (which : Int) : Int := zy5 .i64 (1 + zy5 .i64 (BitVec.toNat (BitVec.ofInt 64 which &&& (BitVec.ofInt 64 1)) : Int))
def w2 (which : Int) : Int := zy5 .i64 (1 + zy5 .i64 (BitVec.toNat (BitVec.ofInt 64 (Int.fdiv which (2 ^ (1))) &&& (BitVec.ofInt 64 1)) : Int))
def w3 (which : Int) : Int := zy5 .i64 (BitVec.toNat (BitVec.ofInt 64 (Int.fdiv which (2 ^ (2))) &&& (BitVec.ofInt 64 1)) : Int)
theorem bit01 (x : BitVec 64) : (x &&& BitVec.ofInt 64 1).toNat = 0 ∨ (x &&& BitVec.ofInt 64 1).toNat = 1 := by
 rw [z31, show (BitVec.ofInt 64 1).toNat = 1 from rfl, Nat.and_one_is_mod]
 omega
theorem w1_12 (w : Int) : w1 w = 1 ∨ w1 w = 2 := by
 unfold w1
 rcases bit01 (BitVec.ofInt 64 w) with h | h <;> rw [h]
 · exact .inl rfl
 · exact .inr rfl
theorem w2_12 (w : Int) : w2 w = 1 ∨ w2 w = 2 := by
 unfold w2
 rcases bit01 (BitVec.ofInt 64 (Int.fdiv w (2 ^ (1)))) with h | h <;> rw [h]
 · exact .inl rfl
 · exact .inr rfl
theorem w3_01 (w : Int) : w3 w = 0 ∨ w3 w = 1 := by
 unfold w3
 rcases bit01 (BitVec.ofInt 64 (Int.fdiv w (2 ^ (2)))) with h | h <;> rw [h]
 · exact .inl rfl
 · exact .inr rfl
theorem cat_S (w : Int) : PRun Tryz.prog 69 [] [caW (w1 w) (w2 w) (w3 w)] fun x m => x = .i 0 ∧ m = [] := by
 have h1 := w1_12 w
 have h2 := w2_12 w
 have h3 := w3_01 w
 exact catS_S (by omega) (by omega) (by omega)
def bl0 : List Bl := [⟨3, 2, 10, [(1, 3), (2, 1)], 2, 3, 5⟩, ⟨4, 1, 7, [(3, 2)], 0, 0, 3⟩]
def ktW (w : Int) : Kt := ⟨4, bl0, 2, [⟨1, w1 w, 1, 1000⟩, ⟨w2 w, 1, w3 w, 0⟩], 3⟩
def dl0 : List Dr := [⟨0, 1, 0, 1, 1, 0, 0, -1, 0⟩, ⟨0, 2, 0, 1, 2, 0, 0, -1, 0⟩, ⟨0, 1, 0, 1, 2, 3, 0, 4, 0⟩, ⟨0, 2, 0, 1, 1, 0, 8, -1, 0⟩, ⟨0, 1, 0, 2, 1, 0, 0, -1, 0⟩]
def ds0 : List Dr := [⟨1, 1, 0, 1, 1, 0, 0, -1, 0⟩, ⟨2, 2, 0, 1, 2, 0, 0, -1, 0⟩, ⟨3, 1, 0, 1, 2, 3, 0, 4, 0⟩, ⟨4, 2, 0, 1, 1, 0, 8, -1, 0⟩, ⟨5, 1, 0, 2, 1, 0, 0, -1, 0⟩]
abbrev ln0 (w : Int) : List Sd := newL (w1 w) 1 1 (w3 w)
def wk0 (w : Int) : Wk := ⟨p0, b0, [], 1, [], ds0, 5, ln0 w, []⟩
theorem nilJ_S {s : Nat} : PRun Tryz.prog 72 [] [.nl s] fun x m => x = .nl 16 ∧ m = [] := by
 have hV : ((fun (x : V) (m : Mem) => x = .nl 16 ∧ m = []) (.nl 16) []) = runS Tryz.prog ⟨[], [], [], [], [], true, 64, KN.no, true, SP.no⟩ 2 .out 72 [] [] (zf7 Tryz.f72) (retG Tryz.prog true Tryz.f72 (endS true ([] : Mem).length fun x m => x = .nl 16 ∧ m = [])) (zf3 Tryz.prog true Tryz.f72 [.nl s]) [] := by kernel_rfl
 exact zo1 mixJb (gc := true) (H := ⟨[], [], [], [], [], true, 64, KN.no, true, SP.no⟩) (n := 2) Tryz.func72 (by kernel_rfl) (c := zf7 Tryz.f72) (by kernel_rfl) (hV ▸ ⟨rfl, rfl⟩)
abbrev zyk (w : Int) : List V := [.i 4, .l 7 blW, .i 2, .l 4 (byW (w1 w) (w2 w) (w3 w)), .i 3, .i 200, .i 1, .i 500]
theorem newW_S0 (w : Int) : PRun Tryz.prog 27 [pC p0 562, bK b0, qO [] 256 1, .c [.nl 4, .nm]] [.a (zyk w), .r 0 0, .r 1 0, .r 2 0, .r 3 0] fun x m => x = .t [.r 4 0, .i 0] ∧ m = [pC p0 562, bK b0, qO [] 256 1, .c [.nl 4, .nm], .c (zyk w ++ [.r 0 0, .r 1 0, .r 2 0, .r 3 0, .r 5 0, .r 6 0, .nl 16]), .c [.nl 13, .i 0], .o (bayC (zyk w))] := by
 have h1 := w1_12 w
 have h3 := w3_01 w
 refine S27 (X1 := Ob.of (zta (ln0 w))) (zku ⟨by decide, by decide, rfl, S21 ((cat_S w).mono ?_), rfl, rfl⟩)
 rintro _ _ ⟨rfl, rfl⟩
 rw [zaw]
 exact cNe (fun h => absurd rfl h) fun _ => ⟨Ob.of (zta (ln0 w)), bload_S (by omega) (by omega), nilJ_S, rfl, rfl⟩
abbrev R5 : V := .t [.a [.r 0 0, .r 1 0, .r 2 0, .r 3 0, .r 4 0], .u (.b true)]
abbrev M0w (w : Int) : Mem := [.c ((zyk w ++ [.r 1 0, .r 2 0, .r 3 0, .r 4 0, .r 5 0, .r 6 0]) ++ [.nl 16]), pC p0 562, bK b0, qO [] 256 1, .c [.nl 4, .nm], drB ds0 5, .o (bayC (zyk w))]
theorem post_IId {F : Int → Int → List (List U) → Int → Prop} {e' g : Int} : post [.I, .I] [.c [.l 13, .i .i64]] F (.t [.i e, .i e']) [drB ds g] = F e e' (ds.map eD) g := rfl
theorem zyc : DNum ds0 := fun i d h => by
 match i, h with
 | 0, h => cases h; rfl
 | 1, h => cases h; rfl
 | 2, h => cases h; rfl
 | 3, h => cases h; rfl
 | 4, h => cases h; rfl
 | i + 5, h => simp [ds0] at h
theorem begun0_S (w : Int) : PRun Tryz.prog 7 [] [.i w] fun x m => x = R5 ∧ m = M0w w := by
 refine S7 (S12 ?_)
 refine ⟨by omega, by omega, ?_⟩
 refine ⟨by unfold zak; simp, by unfold zak; simp, by unfold zak; simp, by unfold zak; simp, by unfold zak; simp, by unfold zak; simp, ?_⟩
 refine ⟨rfl, rfl, rfl, newW_S0 w, ?_⟩
 refine ⟨fun x q1 q2 q3 q4 q5 l g => ∃ i : Nat, x = (i : Int) ∧ i ≤ 5 ∧ l = (ds0.take i).map eD ∧ g = (i : Int), fun x _ _ _ _ _ _ _ => (5 - x).toNat, ⟨0, rfl, by omega, rfl, rfl⟩, ?_⟩
 rintro _ q1 q2 q3 q4 q5 _ _ ⟨i, rfl, hi, rfl, rfl⟩
 refine cIf (fun hlt => ?_) fun hge => ?_
 · have hlt : i < 5 := by
    have : (i : Int) < 5 := by simpa using hlt
    omega
   have e1 : zy5 .i64 ((i : Int) + 1) = ((i + 1 : Nat) : Int) := by rw [w64 (by omega) (by omega)]; omega
   rw [e1]
   have hnum : DNum (ds0.take i) := fun k d h => zyc k d (by
    rw [z0y] at h
    split at h
    · exact h
    · cases h)
   have hlen : (ds0.take i).length = i := by rw [zz9]; show min i 5 = i; omega
   have key : ∀ d : Dr, dl0[i]? = some d → isD d = true → d.busy = 0 → ds0.take i ++ [{ d with id := (i : Int) + 1 }] = ds0.take (i + 1) → ∀ {F : Int → Int → List (List U) → Int → Prop}, F ((i + 1 : Nat) : Int) 0 ((ds0.take (i + 1)).map eD) ((i + 1 : Nat) : Int) → PRun Tryz.prog 28 [drB (ds0.take i) (i : Int)] [.r 0 0, rV d] (post [.I, .I] [.c [.l 13, .i .i64]] F) := fun d hd h1 h2 h3 F hF => by
    refine add_D hnum (by rw [hlen]) (by omega) (fun h => ?_) (fun h => ?_) fun _ _ _ => ?_
    · rcases h with h | h
      · rw [h1] at h; cases h
      · exact absurd h2 h
    · exact absurd (by unfold zv6; rw [hlen]; omega) h
    · rw [h3, post_IId]
      have e : ((i : Int) + 1) = ((i + 1 : Nat) : Int) := by omega
      rw [e]
      exact hF
   obtain ⟨d, hd, h1, h2, h3⟩ : ∃ d, dl0[i]? = some d ∧ isD d = true ∧ d.busy = 0 ∧ ds0.take i ++ [{ d with id := (i : Int) + 1 }] = ds0.take (i + 1) := by
    have : i = 0 ∨ i = 1 ∨ i = 2 ∨ i = 3 ∨ i = 4 := by omega
    rcases this with rfl | rfl | rfl | rfl | rfl
    · exact ⟨_, rfl, by decide, rfl, rfl⟩
    · exact ⟨_, rfl, by decide, rfl, rfl⟩
    · exact ⟨_, rfl, by decide, rfl, rfl⟩
    · exact ⟨_, rfl, by decide, rfl, rfl⟩
    · exact ⟨_, rfl, by decide, rfl, rfl⟩
   rw [zah (r := dRw d) (by omega) (by show (dl0.map dRw)[((i : Int)).toNat]? = _; rw [zzs, zzg, hd]; rfl)]
   simp only [dRw, ug0, ugs, zbo]
   refine key d hd h1 h2 h3 ?_
   exact cNe (fun h => absurd rfl h) fun _ => cNe (fun h => absurd rfl h) fun _ => ⟨⟨i + 1, by first | trivial | rfl, by omega, by first | trivial | rfl, by first | trivial | rfl⟩, by omega⟩
 · have : i = 5 := by
    have hge : ¬ (i : Int) < 5 := by simpa using hge
    omega
   subst this
   exact ⟨rfl, rfl⟩
theorem zl2 {D : Fz} {ρ : List Loc} {b s : Nat} {L : Loc} (hb : ρ[b]? = some L) (h1 : L.a = none) (h2 : L.n = 0) (h3 : L.c = 0) : ∀ {l : List V} {vs : List Value}, RpC D ρ vs (l ++ [.nl s]) → RpC D ρ vs (l ++ [.w b])
 | [], _, h => by
   cases h with
   | cons a _ c =>
     cases a
     have := Rp.w (D := D) hb
     rw [h1, h2, h3] at this
     exact .cons this (fun _ _ _ h => nomatch h) c
 | x :: l, _, h => by
   cases h with
   | cons a k c => exact .cons a k (zl2 hb h1 h2 h3 c)
   | n e c => exact .n e (zl2 hb h1 h2 h3 c)
theorem M0w_S {D : Fz} {ρ : List Loc} {chs C : List zac} {h : zaf} {w : Int} (M : SAt D ρ (M0w w) chs C h) : ∃ chs', SAt D (ρ ++ [⟨0, none, 0, 0, none⟩]) (W8 (ktW w) (wk0 w)) chs' C h := by
 have l1 := M.len
 have l2 := M.lch
 match ρ, chs, l1, l2 with
 | [L0, L1, L2, L3, L4, L5, L6], [c0, c1, c2, c3, c4, c5, c6], _, _ =>
   have e := fun i L ab ch a b c => (M.ent i L ab ch a b c).mono (.refl D) [⟨0, none, 0, 0, none⟩]
   refine ⟨[c0, c1, c2, c3, c4, c5, c6, []], rfl, rfl, fun i L ab ch q1 q2 q3 => ?_, M.st.perm (by simp)⟩
   match i, q1, q2, q3 with
   | 0, q1, q2, q3 =>
     have e0 := e 0 L0 _ c0 rfl rfl rfl
     cases q1; cases q2; cases q3
     cases e0 with
     | c hc => exact .c (zl2 (b := 7) (L := ⟨0, none, 0, 0, none⟩) rfl rfl rfl rfl hc)
   | 1, q1, q2, q3 => cases q1; cases q2; cases q3; exact e 1 L1 _ c1 rfl rfl rfl
   | 2, q1, q2, q3 => cases q1; cases q2; cases q3; exact e 2 L2 _ c2 rfl rfl rfl
   | 3, q1, q2, q3 => cases q1; cases q2; cases q3; exact e 3 L3 _ c3 rfl rfl rfl
   | 4, q1, q2, q3 =>
     have e4 := e 4 L4 _ c4 rfl rfl rfl
     cases q1; cases q2; cases q3
     refine .o ⟨[.c [.nl 4, .nm]], [L4], [c4], .inl ⟨rfl, rfl⟩, rfl, rfl, ⟨L4, rfl, rfl⟩, by simp, fun i L ab ch q1 q2 q3 => ?_⟩
     cases i with
     | succ i => simp at q1
     | zero =>
       cases q1; cases q2; cases q3
       cases e4 with
       | c hc =>
         cases hc with
         | cons a1 _ hc =>
           cases hc with
           | cons a2 _ hc =>
             cases hc
             cases a1; cases a2
             exact .c (.cons .nl (fun _ _ _ h => nomatch h) (.cons .nm (fun _ _ _ h => nomatch h) .nil))
   | 5, q1, q2, q3 => cases q1; cases q2; cases q3; exact e 5 L5 _ c5 rfl rfl rfl
   | 6, q1, q2, q3 => cases q1; cases q2; cases q3; exact e 6 L6 _ c6 rfl rfl rfl
   | 7, q1, q2, q3 => cases q1; cases q2; cases q3; exact .w (.nil none) rfl
   | i + 8, q1, q2, q3 => simp at q2
theorem zyt (w : Int) : PRun Tryz.prog 7 [] [.i w] fun x m => x = R5 ∧ m = W8 (ktW w) (wk0 w) := by
 intro D ρ chs C h vs M F
 have hρ : ρ = [] := z0v M.len
 subst hρ
 refine (begun0_S w D [] chs C h vs M F).mono ?_
 rintro v h2 ⟨D2, s, cs, x, m', le, M2, hv, rfl, rfl⟩
 obtain ⟨cs', M3⟩ := M0w_S M2
 refine ⟨D2, s ++ [⟨0, none, 0, 0, none⟩], cs', _, _, le, by simpa using M3, ?_, rfl, rfl⟩
 have := hv.mono (.refl D2) (s := [⟨0, none, 0, 0, none⟩])
 simpa using this
end
def bgR (args : List V) (m : Mem) : V × Mem :=
 match args with
 | [.u (.i _ w)] => (R5, W8 (ktW w) (wk0 w))
 | _ => (.t [], [])
section
set_option maxRecDepth 100000
def offT (w : Int) (T : List Tm) : List Tm := T.filter fun t => t.2.2 != w
theorem zkt {α : Type} {P : α → Bool} {l : List α} (h : ∀ x ∈ l, P x = true) : l.filter P = l := z2k.2 h
theorem TimF.off {T : List Tm} {w : Int} (h : TimF T w T') (hn : (T.map fun t => t.2.2).Nodup) : T'.Perm (offT w T) := by
 unfold offT
 rcases h with ⟨t, hp, ht⟩ | ⟨ha, rfl⟩
 · have h1 := hp.symm.filter fun t => t.2.2 != w
   have h4 : T'.filter (fun t => t.2.2 != w) = T' := zkt fun x hx => by
    have h2 := (hp.map fun t => t.2.2).nodup_iff.2 hn
    have h3 := (z02.1 h2).1
    simp only [bne_iff_ne, ne_eq]
    intro e
    exact h3 (zz6.2 ⟨x, hx, e.trans ht.symm⟩)
   rw [z1h (by simp [ht]), h4] at h1
   exact h1.symm
 · rw [zkt fun x hx => by simpa using ha x hx]
def popT (now : Int) : List Tm → Option (Tm × List Tm)
 | [] => none
 | t :: T => if t.1 ≤ now then some (t, T) else none
theorem srtT_min {L L' : List Tm} (hp : (t :: L').Perm L) (hm : ∀ x ∈ L, leT t x) (hd : DifT L) : zfm L = t :: zfm L' := by
 refine zh8 ((zap L).trans (hp.symm.trans ((zap L').symm.cons t))) (zb8 L) (z0h.2 ⟨fun y hy => hm y (hp.mem_iff.1 (zzy _ ((zap L').mem_iff.1 hy))), zb8 L'⟩) (DifT.perm (zap L).symm hd)
abbrev nT (s : Wk) : Wk := { s with T := zfm s.T }
section
variable {C : Kt} {s s' : Wk} {now id : Int}
theorem W9_nT : W9 C (nT s) = W9 C s := by
 show [mkWk C 8, pC s.p 562, bK s.b, .o (Ob.of (qS (zfm s.T) 256 s.next)), .o (Ob.of (zix s.Lg)), drB s.ds s.g, bO s.l, .x, .w 48 16 (s.js.map za2)] = _
 rw [qO.perm (zap s.T)]
theorem WT.whats (h : WT C s) : (s.T.map fun t => t.2.2).Nodup := by
 have h1 : (s.T.map fun t => t.2.2) = (s.T.map tp).map Prod.snd := by rw [z0k]; rfl
 rw [h1]
 refine ((h.tim.map Prod.snd).nodup_iff).2 ?_
 have h2 : (za6 Pq fq s.js).map Prod.snd = (za6 Pq (·.id) s.js).map fun n => 2 * n := by unfold za6; rw [z0k, z0k]; rfl
 rw [h2]
 exact (List.Pairwise.map (R := (· ≠ ·)) (S := (· ≠ ·)) (fun n => 2 * n) (fun a b hab e => hab (by omega)) (h.nd Pq))
theorem WT.nT (h : WT C s) : WT C (nT s) where
 l4 := h.l4
 slot := h.slot
 room := h.room
 run := h.run
 wait := h.wait
 tim := ((zap s.T).map tp).trans h.tim
 ids := (DifT.perm (zap s.T).symm h.ids)
 lt t ht := h.lt t ((zap s.T).mem_iff.1 ht)
 jok := h.jok
 jlen := h.jlen
theorem WV.nT {M : Nat} {N : Int} (h : WV C M N s) : WV C M N (nT s) :=
 ⟨h.wt.nT, h.pinv, h.plen, h.binv, h.blen, h.nx, h.dnum, h.dlen, h.glen, h.dok, h.dr, h.mark, h.mlen, h.mid⟩
def runG (s : Wk) (i : Nat) (j : Jb) (now : Int) : Wk := { s with T := insT (now + j.left, s.next, 2 * j.id) s.T, next := s.next + 1, js := s.js.set i (jDo 1 j now) }
def hasJ (id : Int) (x : Sd) : Bool := x.run.contains id || x.wait.contains id
def lvG (s : Wk) (id now : Int) : Wk :=
 match s.l.findIdx? (hasJ id) with
 | none => { s with T := offT (2 * id) s.T }
 | some k => match s.l[k]? with
   | none => { s with T := offT (2 * id) s.T }
   | some x => match at1 s.js (lvS x id).2 with
     | none => { s with T := offT (2 * id) s.T, l := s.l.set k (lvS x id).1 }
     | some j => runG { s with T := offT (2 * id) s.T, l := s.l.set k (lvS x id).1 } ((lvS x id).2 - 1).toNat j now
theorem hasJ_iff : hasJ id x = true ↔ id ∈ x.run ∨ id ∈ x.wait := by simp [hasJ, List.contains_iff_mem]
theorem lvs_G (hn : (s.T.map fun t => t.2.2).Nodup) (hd : DifT s.T) (hone : ∀ (k m : Nat) (x y : Sd), s.l[k]? = some x → s.l[m]? = some y → (id ∈ x.run ∨ id ∈ x.wait) → (id ∈ y.run ∨ id ∈ y.wait) → k = m) (h : Lvs s id now s') : nT s' = lvG (nT s) id now := by
 have off : ∀ {T' : List Tm}, TimF s.T (2 * id) T' → zfm T' = offT (2 * id) (zfm s.T) := fun hT => by
  have hp := hT.off hn
  rw [zvl hp (DifT.perm hp.symm (hd.sublist List.filter_sublist))]
  exact zpz hd
 have find : ∀ {k : Nat} {x : Sd}, s.l[k]? = some x → (id ∈ x.run ∨ id ∈ x.wait) → s.l.findIdx? (hasJ id) = some k := fun {k x} hk hin => by
  have hlt := (zza.1 hk).1
  rw [List.findIdx?_eq_some_iff_getElem]
  refine ⟨hlt, ?_, fun m hm => ?_⟩
  · have := (zza.1 hk).2
    rw [this]; exact hasJ_iff.2 hin
  · have hm2 : m < s.l.length := by omega
    cases e : hasJ id s.l[m] with
    | false => simp
    | true => exact absurd (hone k m x s.l[m] hk (zzb hm2) hin (hasJ_iff.1 e)) (by omega)
 unfold lvG
 cases h with
 | no hT ha =>
   have : s.l.findIdx? (hasJ id) = none := List.findIdx?_eq_none_iff.2 fun x hx => by
    have := ha x hx
    cases e : hasJ id x with
    | false => rfl
    | true => exact absurd (hasJ_iff.1 e) (by simp [this.1, this.2])
   show { s with T := zfm _ } = match s.l.findIdx? (hasJ id) with | none => _ | some k => _
   rw [this, off hT]
 | one hT hk hin h0 =>
   rename_i T' k x
   show { s with T := zfm T', l := _ } = match s.l.findIdx? (hasJ id) with | none => _ | some k => _
   rw [find hk hin]
   show _ = match s.l[k]? with | none => _ | some x => _
   rw [hk]
   simp only
   rw [h0, show at1 s.js 0 = none from rfl, off hT]
 | two hT hk hin h0 hj hji he =>
   rename_i T' k x i j
   show { s with T := insT _ (zfm T'), l := _, next := _, js := _ } = match s.l.findIdx? (hasJ id) with | none => _ | some k => _
   rw [find hk hin]
   show _ = match s.l[k]? with | none => _ | some x => _
   rw [hk]
   simp only
   rw [h0, zam hj rfl, off hT]
   show _ = runG _ ((i : Int) + 1 - 1).toNat j now
   rw [show ((i : Int) + 1 - 1).toNat = i by omega]
   rfl
def askG (s : Wk) (k : Nat) (x : Sd) (i : Nat) (j : Jb) (now : Int) : Wk :=
 if (x.run.length : Int) < x.n then runG { s with l := s.l.set k (zq4 x j.id) } i j now else { s with l := s.l.set k (zq4 x j.id) }
theorem asks_G (h : Asks s k x i j now s') : nT s' = askG (nT s) k x i j now := by
 unfold askG
 cases h with
 | run h => rw [if_pos h]; rfl
 | wait h => rw [if_neg h]
theorem WT.one (h : WT C s) (hg : s.js[i]? = some j) (k m : Nat) (x y : Sd) (hk : s.l[k]? = some x) (hm : s.l[m]? = some y) (hx : j.id ∈ x.run ∨ j.id ∈ x.wait) (hy : j.id ∈ y.run ∨ j.id ∈ y.wait) : k = m := by
 have a : ∀ {k : Nat} {x : Sd}, s.l[k]? = some x → (j.id ∈ x.run ∨ j.id ∈ x.wait) → jAt j = (k : Int) := fun hk hx => hx.elim (fun h1 => ((h.runs hk hg).1 h1).2) fun h1 => ((h.waits hk hg).1 h1).2
 have := a hk hx
 have := a hm hy
 omega
end
end
section
set_option maxRecDepth 100000
def setJ (s : Wk) (id : Int) (j : Jb) : Wk := { s with js := s.js.set (id - 1).toNat j }
def pauG (s : Wk) (now id : Int) : Int × Wk := if ztq s 2 now id ≠ 0 then (ztq s 2 now id, s) else match at1 s.js id with
 | some j => (0, lvG (setJ s id (jDo 2 j now)) id now)
 | none => (3, s)
def markG (s : Wk) (now id st : Int) : Wk := { s with Lg := znd s.Lg (now, 1, id, st) }
def firG (s : Wk) (now id : Int) : Int × Wk := if ztq s 4 now id ≠ 0 then (ztq s 4 now id, s) else match at1 s.js id with
 | some j => (0, markG (lvG (setJ s id (jDo 4 j now)) id now) now id 4)
 | none => (3, s)
def resG (s : Wk) (now id : Int) : Int × Wk := if zv9 s now id ≠ 0 then (zv9 s now id, s) else match at1 s.js id with
 | some j => (match s.l[(jAt j).toNat]? with
   | some x => (0, askG (setJ s id (jDo 3 j 0)) (jAt j).toNat x (id - 1).toNat (jDo 3 j 0) now)
   | none => (3, s))
 | none => (3, s)
def canG (C : Kt) (s : Wk) (now id : Int) : Int × Wk := if zuy s now id ≠ 0 then (zuy s now id, s) else match at1 s.js id with
 | some j => (0, markG (lvG (canW C s (id - 1).toNat j) id now) now id 6)
 | none => (3, s)
def givG (C : Kt) (s : Wk) (j : Jb) (d : Dr) (b : Bl) : Int × Wk :=
 if j.kind = 1 then (if 1125899906842624 < tyQ b.makes s.b + b.per * j.runs then (5, s) else (0, { s with b := ze1 (bin ⟨j.own, j.div, zbl C j, 1⟩ b.makes) (zan (bin ⟨j.own, j.div, zbl C j, 1⟩ b.makes) (rmv (vK j.id (zbl C j)) s.b) + b.per * j.runs) (rmv (vK j.id (zbl C j)) s.b) }))
 else if j.kind = 2 then (0, { s with ds := if zcs d j.runs 0 = 0 then s.ds.set (j.draft - 1).toNat (ze8 d j.runs 0) else s.ds })
 else if j.kind = 3 then (0, { s with ds := if zcs d 0 j.runs = 0 then s.ds.set (j.draft - 1).toNat (ze8 d 0 j.runs) else s.ds })
 else if zyh s.ds s.g d j.copies j.runs ≠ 0 then (zyh s.ds s.g d j.copies j.runs, s) else (0, { s with ds := s.ds ++ cpD d j.runs s.g j.copies.toNat, g := s.g + j.copies })
def zuw (C : Kt) (s : Wk) (id : Int) : Int × Wk := match at1 s.js id with
 | none => (3, s)
 | some j => if jE 5 j 0 ≠ 0 then (jE 5 j 0, s) else match at1 s.ds j.draft with
   | none => (3, s)
   | some d => match at1 C.bl d.blue with
     | none => (3, s)
     | some b => match givG C s j d b with
       | (e, t) => if e ≠ 0 then (e, s) else (0, { t with ds := zdx t.ds j.draft id 0, js := s.js.set (id - 1).toNat (jDo 5 j 0) })
noncomputable def zsq (C : Kt) (s : Wk) (now : Int) (o : Od) : Int × Int × Wk := if insE C s now o ≠ 0 then (0, insE C s now o, s) else
 match at1 C.bays o.bay, at1 s.ds o.draft with
 | some y, some d => (match at1 C.bl d.blue, s.l[(2 * (o.bay - 1) + (if o.kind = 1 then 0 else 1)).toNat]? with
   | some b, some x =>
     let j := zea y b d o (zjx s.js.length o)
     match zb9 ⟨o.own, o.div, y.place, 1⟩ j.needs s.b with
     | some l1 => ((s.js.length : Int) + 1, 0, askG (insW s (o.draft - 1).toNat d j (movP o.who 0 j.fee s.p) (zih (vK j.id y.place) j.needs l1)) (2 * (o.bay - 1) + (if o.kind = 1 then 0 else 1)).toNat x s.js.length j now)
     | none => (0, 3, s)
   | _, _ => (0, 3, s))
 | _, _ => (0, 3, s)
def latG : Nat → Wk → Int → Wk
 | 0, s, _ => s
 | n + 1, s, now => match popT now s.T with
   | none => s
   | some (t, T') => latG n (firG { s with T := T' } t.1 (t.2.2 / 2)).2 now
def byN (n : Int) : Int := (BitVec.toNat (BitVec.ofInt 64 n &&& BitVec.ofInt 64 255) : Int)
noncomputable def ztc (C : Kt) (s : Wk) (now kind id an : Int) (o : Od) : (Int × Int × Int) × Wk :=
 if kind = 1 then ((now, (zsq C s now o).1, (zsq C s now o).2.1), (zsq C s now o).2.2)
 else if kind = 2 then ((now, 0, (pauG s now id).1), (pauG s now id).2)
 else if kind = 3 then ((now, 0, (resG s now id).1), (resG s now id).2)
 else if kind = 4 then ((now, 0, (canG C s now id).1), (canG C s now id).2)
 else if kind = 5 then ((now, 0, (zuw C s id).1), (zuw C s id).2)
 else ((now + byN an, 0, 0), latG 256 s (now + byN an))
section
variable {C : Kt} {s s' : Wk} {now id e : Int} {i : Nat} {j : Jb}
theorem pauG_er (h : ztq s 2 now id = e) (he : e ≠ 0) : pauG (nT s) now id = (e, nT s) := by
 have h : ztq (nT s) 2 now id = e := h
 unfold pauG; rw [h, if_pos he]
theorem pauG_ok (hW : WT C s) (hg : s.js[i]? = some j) (hid : id = (i : Int) + 1) (he : jE 2 j now = 0) (h : Lvs { s with js := s.js.set i (jDo 2 j now) } id now s') : pauG (nT s) now id = (0, nT s') := by
 have h1 : ztq (nT s) 2 now id = 0 := by have := zin (s := s) (w := 2) (now := now) hg hid; rw [he] at this; exact this
 have h2 : at1 (nT s).js id = some j := zam hg hid
 unfold pauG
 rw [h1, if_neg (fun h => h rfl), h2]
 simp only
 have e1 : id = j.id := by have := (hW.jok i j hg).2.1; omega
 rw [lvs_G (s := { s with js := s.js.set i (jDo 2 j now) }) hW.whats hW.ids (fun k m x y hk hm hx hy => by rw [e1] at hx hy; exact hW.one hg k m x y hk hm hx hy) h]
 unfold setJ
 rw [show (id - 1).toNat = i by omega]
theorem firG_ok (hW : WT C s) (hg : s.js[i]? = some j) (hid : id = (i : Int) + 1) (he : jE 4 j now = 0) {T0 : List Tm} (hT0 : (T0.map fun t => t.2.2).Nodup) (hd0 : DifT T0) (h : Lvs { s with T := T0, js := s.js.set i (jDo 4 j now) } id now s') : firG (nT { s with T := T0 }) now id = (0, nT { s' with Lg := znd s'.Lg (now, 1, id, 4) }) := by
 have h1 : ztq (nT { s with T := T0 }) 4 now id = 0 := by have := zin (s := s) (w := 4) (now := now) hg hid; rw [he] at this; exact this
 have h2 : at1 (nT { s with T := T0 }).js id = some j := zam hg hid
 unfold firG
 rw [h1, if_neg (fun h => h rfl), h2]
 simp only
 have e1 : id = j.id := by have := (hW.jok i j hg).2.1; omega
 have h3 := lvs_G (s := { s with T := T0, js := s.js.set i (jDo 4 j now) }) hT0 hd0 (fun k m x y hk hm hx hy => by rw [e1] at hx hy; exact hW.one hg k m x y hk hm hx hy) h
 unfold setJ
 rw [show (id - 1).toNat = i by omega]
 show (0, markG (lvG (nT { s with T := T0, js := s.js.set i (jDo 4 j now) }) id now) now id 4) = _
 rw [← h3]
 rfl
theorem resG_er (h : zv9 s now id = e) (he : e ≠ 0) : resG (nT s) now id = (e, nT s) := by
 have h : zv9 (nT s) now id = e := h
 unfold resG; rw [h, if_pos he]
theorem resG_ok (hg : s.js[i]? = some j) (hid : id = (i : Int) + 1) (he : jE 3 j 0 = 0) (ht : 0 ≤ now ∧ now ≤ 1099511627776) (hk : jAt j = (k : Int)) (hx : s.l[k]? = some x) (hr : zcp x = true)
 (h : Asks { s with js := s.js.set i (jDo 3 j 0) } k x i (jDo 3 j 0) now s') : resG (nT s) now id = (0, nT s') := by
 have ek : (jAt j).toNat = k := by omega
 have h1 : zv9 (nT s) now id = 0 := by
  have := zfs (s := s) (now := now) hg hid
  rw [if_neg (fun h => h he), if_neg (by rw [inJ_iff.2 ht]; simp), ek, hx] at this
  simp only at this
  rw [if_pos hr] at this
  exact this
 have h2 : at1 (nT s).js id = some j := zam hg hid
 unfold resG
 rw [h1, if_neg (fun h => h rfl), h2]
 simp only
 rw [ek, show (nT s).l[k]? = some x from hx]
 simp only
 rw [asks_G h]
 unfold setJ
 rw [show (id - 1).toNat = i by omega]
theorem canG_er (h : zuy s now id = e) (he : e ≠ 0) : canG C (nT s) now id = (e, nT s) := by
 have h : zuy (nT s) now id = e := h
 unfold canG; rw [h, if_pos he]
theorem canG_ok (hW : WT C s) (hg : s.js[i]? = some j) (hid : id = (i : Int) + 1) (he : jE 6 j 0 = 0) (ht : 0 ≤ now ∧ now ≤ 1099511627776) (h : Lvs (canW C s i j) id now s') : canG C (nT s) now id = (0, nT { s' with Lg := znd s'.Lg (now, 1, id, 6) }) := by
 have h1 : zuy (nT s) now id = 0 := by show zuy s now id = 0; unfold zuy; rw [zam hg hid]; simp only; rw [if_neg (by rw [inJ_iff.2 ht]; simp)]; exact he
 have h2 : at1 (nT s).js id = some j := zam hg hid
 unfold canG
 rw [h1, if_neg (fun h => h rfl), h2]
 simp only
 have e1 : id = j.id := by have := (hW.jok i j hg).2.1; omega
 have h3 := lvs_G (s := canW C s i j) hW.whats hW.ids (fun k m x y hk hm hx hy => by rw [e1] at hx hy; exact hW.one hg k m x y hk hm hx hy) h
 rw [show (id - 1).toNat = i by omega]
 show (0, markG (lvG (nT (canW C s i j)) id now) now id 6) = _
 rw [← h3]
 rfl
theorem zx6 (hk : 1 ≤ j.kind ∧ j.kind ≤ 4) (h : Gives C s j d b e s') : givG C (nT s) j d b = (e, nT s') := by
 unfold givG
 cases h with
 | over h1 h2 => rw [if_pos h1, if_pos h2]
 | made h1 h2 h3 => rw [if_pos h1, if_neg (by show ¬ _ < tyQ b.makes s.b + _; omega)]
 | me h1 => rw [if_neg (by omega), if_pos h1]
 | te h1 => rw [if_neg (by omega), if_neg (by omega), if_pos h1]
 | full h1 h2 => rw [if_neg (by omega), if_neg (by omega), if_neg (by omega), if_pos h2]
 | cop h1 h2 => rw [if_neg (by omega), if_neg (by omega), if_neg (by omega), if_neg (fun h => h h2)]
theorem zye (hok : ∀ (i : Nat) (j : Jb), s.js[i]? = some j → 1 ≤ j.kind ∧ j.kind ≤ 4) (he : e ≠ 0) (h : (at1 s.js id = none ∧ e = 3) ∨ ∃ (i : Nat) (j : Jb), s.js[i]? = some j ∧ id = (i : Int) + 1 ∧ ((jE 5 j 0 ≠ 0 ∧ e = jE 5 j 0) ∨ ∃ d b, jE 5 j 0 = 0 ∧ at1 s.ds j.draft = some d ∧ at1 C.bl d.blue = some b ∧ Gives C s j d b e s)) : zuw C (nT s) id = (e, nT s) := by
 unfold zuw
 rcases h with ⟨h1, rfl⟩ | ⟨i, j, hg, hid, h | ⟨d, b, h0, hd, hb, hG⟩⟩
 · rw [show at1 (nT s).js id = none from h1]
 · rw [show at1 (nT s).js id = some j from zam hg hid]
   simp only
   rw [if_pos h.1, h.2]
 · rw [show at1 (nT s).js id = some j from zam hg hid]
   simp only
   rw [if_neg (fun h => h h0), show at1 (nT s).ds j.draft = some d from hd]
   simp only
   rw [hb]
   simp only
   rw [zx6 (hok i j hg) hG]
   rw [if_pos he]
theorem zyd (hok : 1 ≤ j.kind ∧ j.kind ≤ 4) (hg : s.js[i]? = some j) (hid : id = (i : Int) + 1) (h0 : jE 5 j 0 = 0) (hd : at1 s.ds j.draft = some d) (hb : at1 C.bl d.blue = some b) (hG : Gives C s j d b 0 s') :
 zuw C (nT s) id = (0, nT { s' with ds := zdx s'.ds j.draft id 0, js := s.js.set i (jDo 5 j 0) }) := by
 unfold zuw
 rw [show at1 (nT s).js id = some j from zam hg hid]
 simp only
 rw [if_neg (fun h => h h0), show at1 (nT s).ds j.draft = some d from hd]
 simp only
 rw [hb]
 simp only
 rw [zx6 hok hG]
 rw [if_neg (fun h => h rfl), show (id - 1).toNat = i by omega]
theorem zx0 (h : insE C s now o = e) (he : e ≠ 0) : zsq C (nT s) now o = (0, e, nT s) := by
 have h : insE C (nT s) now o = e := h
 unfold zsq; rw [h, if_pos he]
theorem zxz {y : Yb} {p' b' : Tb} (hi : s.ds[i]? = some d) (hdn : o.draft = (i : Int) + 1) (F : InsF C s now o y d b k x j p' b') (h : Asks (insW s i d j p' b') k x s.js.length j now s') :
 zsq C (nT s) now o = ((s.js.length : Int) + 1, 0, nT s') := by
 obtain ⟨l1, hl1, -, hb'⟩ := F.bins
 have hk : 2 * (o.bay - 1) + (if o.kind = 1 then 0 else 1) = (k : Int) := by
  have := F.at1
  rw [F.job] at this
  exact this
 have ek : (2 * (o.bay - 1) + (if o.kind = 1 then 0 else 1)).toNat = k := by omega
 have hf := F.fit
 have h1 : insE C (nT s) now o = 0 := by
  show insE C s now o = 0
  rw [zx1 F.find hk F.side, if_neg (fun h => h hf), if_neg (fun h => h F.plan), ← F.job, if_neg (by have := F.fee; omega), if_pos (z0o.2 fun t ht => decide_eq_true (F.lie t ht))]
 unfold zsq
 rw [h1, if_neg (fun h => h rfl), F.find.bay, show at1 (nT s).ds o.draft = some d from F.find.dr]
 simp only
 rw [F.find.bl, ek, show (nT s).l[k]? = some x from F.side]
 simp only
 show (match zb9 ⟨o.own, o.div, y.place, 1⟩ (zea y b d o (zjx s.js.length o)).needs s.b with | some l1 => _ | none => _) = _
 rw [← F.job, hl1]
 simp only
 rw [asks_G h, show (o.draft - 1).toNat = i by omega, hb', F.pur]
end
end
section
set_option maxRecDepth 1000000
variable {Q : V → Mem → Prop}
theorem later_S {n : Int} (k : ∀ x, x = byN n → 0 ≤ x → x ≤ 255 → (n = 255 → x = 255) → Q (.i x) []) : PRun Tryz.prog 38 [] [.i n] Q := by
 refine S38 ?_
 have hb : (BitVec.ofInt 64 n &&& BitVec.ofInt 64 255).toNat ≤ 255 := by
  rw [z31, show (BitVec.ofInt 64 255).toNat = 255 from rfl]
  exact Nat.and_le_right
 refine k _ (w64 (by omega) (by omega)) ?_ ?_ ?_
 · rw [w64 (by omega) (by omega)]; omega
 · rw [w64 (by omega) (by omega)]; omega
 · rintro rfl; rfl
structure Per (a b : List Jb) : Prop where
 len : b.length = a.length
 all : ∀ (i : Nat) (j : Jb), a[i]? = some j → ∃ j', b[i]? = some j' ∧ (j.st = 2 → (j'.st = 2 ∨ j'.st = 4) ∧ j'.fin = j.fin) ∧ (j.st = 4 → j'.st = 4 ∧ j'.fin = j.fin)
theorem Per.refl (a : List Jb) : Per a a := ⟨rfl, fun i j h => ⟨j, h, fun h2 => ⟨.inl h2, rfl⟩, fun h4 => ⟨h4, rfl⟩⟩⟩
theorem Per.trans {a b c : List Jb} (h : Per a b) (k : Per b c) : Per a c := ⟨by rw [k.len, h.len], fun i j hj => by
 obtain ⟨j1, h1, h2, h3⟩ := h.all i j hj
 obtain ⟨j2, k1, k2, k3⟩ := k.all i j1 h1
 refine ⟨j2, k1, fun e => ?_, fun e => ?_⟩
 · obtain ⟨hs, hf⟩ := h2 e
   rcases hs with hs | hs
   · have := k2 hs; exact ⟨this.1, by rw [this.2, hf]⟩
   · have := k3 hs; exact ⟨.inr this.1, by rw [this.2, hf]⟩
 · obtain ⟨hs, hf⟩ := h3 e
   have := k3 hs
   exact ⟨this.1, by rw [this.2, hf]⟩⟩
theorem Per.set {a : List Jb} (h : a[i]? = some j) (h2 : j.st = 2 → (j2.st = 2 ∨ j2.st = 4) ∧ j2.fin = j.fin) (h4 : j.st = 4 → j2.st = 4 ∧ j2.fin = j.fin) : Per a (a.set i j2) := ⟨by simp, fun k x hx => by
 have hlt := (zza.1 h).1
 by_cases e : i = k
 · subst e
   rw [h] at hx; cases hx
   exact ⟨j2, z0f hlt, h2, h4⟩
 · exact ⟨x, by rw [zz0 e]; exact hx, fun h2 => ⟨.inl h2, rfl⟩, fun h4 => ⟨h4, rfl⟩⟩⟩
theorem lvs_pop {s s' : Wk} {id : Int} (hpm : (t :: T').Perm s.T) (ht : t.2.2 = 2 * id) (hno : ∀ x ∈ T', x.2.2 ≠ 2 * id) (h : Lvs { s with T := T' } id now s') : Lvs s id now s' := by
 have e : ∀ {T2 : List Tm}, TimF T' (2 * id) T2 → T2 = T' := fun hT => by
  rcases hT with ⟨x, h1, h2⟩ | ⟨-, h2⟩
  · exact absurd h2 (hno x (h1.mem_iff.1 zz1))
  · exact h2
 have hF : TimF s.T (2 * id) T' := .inl ⟨t, hpm, ht⟩
 cases h with
 | no hT a => have e1 := e hT; subst e1; exact .no hF a
 | one hT a b c => have e1 := e hT; subst e1; exact .one hF a b c
 | two hT a b c d f g => have e1 := e hT; subst e1; exact .two hF a b c d f g
theorem zwj {F : Int → Int → Int → Bool → Ob → Prop} {c : Bool} {X : Ob} : post [.agg [.i .i64, .i .i64, .i .i64], .B] [.A] F (.t [tV t, .u (.b c)]) [.o X] = F t.1 t.2.1 t.2.2 c X := rfl
abbrev aW (kind id an : Int) (o : Od) : V := .a [.i kind, .i id, .i an, .i o.who, .i o.own, .i o.div, .i o.bay, .i o.draft, .i o.kind, .i o.runs, .i o.copies]
theorem WT.fresh {C : Kt} {s : Wk} (h : WT C s) : ∀ x ∈ s.l, (s.js.length : Int) + 1 ∉ x.run ∧ (s.js.length : Int) + 1 ∉ x.wait := fun x hx => by
 obtain ⟨k, hk⟩ := z0e.1 hx
 have no : ∀ {P : Jb → Bool}, (s.js.length : Int) + 1 ∉ za6 P (·.id) s.js := fun {P} hm => by
  obtain ⟨j, h1, -, h3⟩ := selJ_mem.1 hm
  obtain ⟨i, hi⟩ := z0e.1 h1
  have := (h.jok i j hi).2.1
  have := (zza.1 hi).1
  omega
 exact ⟨fun hm => no ((h.run k x hk).mem_iff.1 hm), fun hm => no ((h.wait k x hk).mem_iff.1 hm)⟩
theorem WT.off {C : Kt} {s : Wk} (h : WT C s) (hg : s.js[i]? = some j) (h3 : j.st = 3) : ∀ x ∈ s.l, j.id ∉ x.run ∧ j.id ∉ x.wait := fun x hx => by
 obtain ⟨k, hk⟩ := z0e.1 hx
 exact ⟨fun hm => by have := ((h.runs hk hg).1 hm).1; omega, fun hm => by have := ((h.waits hk hg).1 hm).1; omega⟩
theorem wdo_S {C : Kt} {n : Nat} {kind id an : Int} {s : Wk} (hC : KtC C) (hW : WV C (6 + 16 * n) (1 + 300 * (n : Int)) s) (hn : n ≤ 60) (ht0 : 0 ≤ now) (ht1 : now ≤ 255 * (n : Int)) (hl : zcl s.Lg ≤ now) (hd : ∀ t ∈ s.T, now < t.1)
 (K : ∀ (now' x e : Int) (s' : Wk), now ≤ now' → now' ≤ 255 * ((n + 1 : Nat) : Int) → (kind < 1 → an = 255 → now' = now + 255) → WV C (6 + 16 * (n + 1)) (1 + 300 * ((n + 1 : Nat) : Int)) s' → zcl s'.Lg ≤ now' → (∀ t ∈ s'.T, now' < t.1) →
  (kind ≠ 5 ∨ e ≠ 0 → ∀ t, tyQ t s'.b = tyQ t s.b) → (e ≠ 0 → s'.js = s.js) → (kind < 1 ∨ 5 < kind → Per s.js s'.js) → ztc C (nT s) now kind id an o = ((now', x, e), nT s') → Q (.t [.i now', .i x, .i e]) (W9 C s')) :
 PRun Tryz.prog 9 (W8 C s) [.a [.r 0 0, .r 1 0, .r 2 0, .r 3 0, .r 4 0], .i now, aW kind id an o] Q := by
 have B := hW.wb hC (by omega) (by omega)
 have hnow : 0 ≤ now ∧ now ≤ 1099511627776 := by omega
 have same : ∀ x e : Int, 1 ≤ kind ∧ kind ≤ 5 → e ≠ 0 → ztc C (nT s) now kind id an o = ((now, x, e), nT s) → Q (.t [.i now, .i x, .i e]) (W9 C s) := fun x e hk he hG => K now x e s (zzw _) (by omega) (fun h => by omega) (hW.up (by omega) (by omega)) hl hd (fun _ _ => rfl) (fun _ => rfl) (fun h => by omega) hG
 have kj : ∀ (i : Nat) (j : Jb), s.js[i]? = some j → 1 ≤ j.kind ∧ j.kind ≤ 4 := fun i j h => (zgr (B.jok i j h).1).2.1.1
 have due : ∀ {s' : Wk}, (∀ t ∈ s'.T, t ∈ s.T ∨ now < t.1) → ∀ t ∈ s'.T, now < t.1 := fun h t ht => by
  rcases h t ht with h | h
  · exact hd t h
  · exact h
 refine S9 (cEq (fun k1 => ?_) fun k1 => cEq (fun k2 => ?_) fun k2 => cEq (fun k3 => ?_) fun k3 => cEq (fun k4 => ?_) fun k4 => cEq (fun k5 => ?_) fun k5 => ?_)
 · -- Install
   refine inst_S (o := o) hC.ok B.pinv B.plen B.binv B.blen B.dnum B.dlen B.dok B.sh (by have := B.jlen; omega) B.l4 B.lsz B.Tlen B.nx hW.wt.fresh (fun e he hE => ?_) fun i y d b k x j p' b' s' hi hdn F hA => ?_
   · rw [zr1]; exact same 0 e (by omega) he (by unfold ztc; rw [if_pos k1, zx0 hE he])
   · rw [zmd]
     obtain ⟨w1, w2, w3⟩ := hW.inst hC hi hdn F hA
     have hLg : s'.Lg = s.Lg := by cases hA <;> rfl
     exact K now _ 0 s' (zzw _) (by omega) (fun h => by omega) (w1.up (by omega) (by omega)) (by rw [hLg]; exact hl) (due w3) (fun _ => w2) (fun h => absurd rfl h) (fun h => by omega) (by unfold ztc; rw [if_pos k1, zxz hi hdn F hA])
 · refine pause_S B (fun i j hg hid he => ?_) (fun e he hE => ?_) fun i j s' hg hid he hL => ?_
   · have e := (B.jok i j hg).2.1
     rw [show id = j.id by omega]
     exact hW.wt.lvOk hg hnow
   · rw [zcq]; exact same 0 e (by omega) he (by unfold ztc; rw [if_neg k1, if_pos k2, pauG_er hE he])
   · rw [zcq]
     have e := (B.jok i j hg).2.1
     rw [show id = j.id by omega] at hL
     have hG := pauG_ok hW.wt hg hid he (by rw [show id = j.id by omega]; exact hL)
     obtain ⟨w1, R⟩ := hW.pause hg he hL
     exact K now _ 0 s' (zzw _) (by omega) (fun h => by omega) (w1.up (by omega) (by omega)) (by rw [R.Lg]; exact hl) (due R.due) (fun _ t => by rw [R.b]) (fun h => absurd rfl h) (fun h => by omega) (by unfold ztc; rw [if_neg k1, if_pos k2, hG])
 · refine resume_S B (fun i j hg hid h3 => ?_) (fun e he hE => ?_) fun i j k x s' hg hid he ht hat hx hr hA => ?_
   · have e := (B.jok i j hg).2.1
     rw [show id = j.id by omega]
     exact hW.wt.off hg h3
   · rw [zcq]; exact same 0 e (by omega) he (by unfold ztc; rw [if_neg k1, if_neg k2, if_pos k3, resG_er hE he])
   · rw [zcq]
     obtain ⟨w1, R⟩ := hW.resume hg he ht hat hx hA
     exact K now _ 0 s' (zzw _) (by omega) (fun h => by omega) (w1.up (by omega) (by omega)) (by rw [R.Lg]; exact hl) (due R.due) (fun _ t => by rw [R.b]) (fun h => absurd rfl h) (fun h => by omega) (by unfold ztc; rw [if_neg k1, if_neg k2, if_pos k3, resG_ok hg hid he ht hat hx hr hA])
 · refine zyl B (fun i j hg hid he ht => ?_) (fun e he hE => ?_) fun i j s' hg hid he ht hbi hbl hL => ?_
   · have e := (B.jok i j hg).2.1
     rw [show id = j.id by omega]
     exact hW.wt.lvOk hg hnow
   · rw [zcq]; exact same 0 e (by omega) he (by unfold ztc; rw [if_neg k1, if_neg k2, if_neg k3, if_pos k4, canG_er hE he])
   · rw [zcq]
     have e : id = j.id := by have := (B.jok i j hg).2.1; omega
     have hG := canG_ok (C := C) hW.wt hg hid he ht hL
     rw [e] at hL hG ⊢
     obtain ⟨ea, w1, w2, w3⟩ := hW.cancel hg he ht hl hbi hbl hL
     rw [ea] at hG ⊢
     exact K now _ 0 _ (zzw _) (by omega) (fun h => by omega) (w1.up (by omega) (by omega)) (by show zcl (s.Lg ++ [(now, 1, j.id, 6)]) ≤ now; rw [zkp]; exact zzw _) (due (s' := { s' with Lg := s.Lg ++ [(now, 1, j.id, 6)] }) w3) (fun _ => w2) (fun h => absurd rfl h) (fun h => by omega) (by unfold ztc; rw [if_neg k1, if_neg k2, if_neg k3, if_pos k4, e, hG])
 · refine zo7 B (hW.hdr hC) (fun e he hE => ?_) fun i j d b s' hg hid he hda hba hG => ?_
   · rw [zcq]; exact same 0 e (by omega) he (by unfold ztc; rw [if_neg k1, if_neg k2, if_neg k3, if_neg k4, if_pos k5, zye kj he hE])
   · rw [zcq]
     have e : id = j.id := by have := (B.jok i j hg).2.1; omega
     have hD := zyd (kj i j hg) hg hid he hda hba hG
     obtain ⟨F, -⟩ := zqv B hda hG
     obtain ⟨b1, b2⟩ := zks hG hW.binv
     have w1 := hW.given F b1 b2
     have w2 := w1.deliver (i := i) (j := j) (by rw [F.js]; exact hg) he
     rw [e] at hD ⊢
     rw [F.js] at w2
     exact K now _ 0 _ (zzw _) (by omega) (fun h => by omega) (w2.up (by omega) (by omega)) (by show zcl s'.Lg ≤ now; rw [F.Lg]; exact hl) (by show ∀ t ∈ s'.T, now < t.1; rw [F.T]; exact hd) (fun h => absurd h (by omega)) (fun h => absurd rfl h) (fun h => by omega) (by unfold ztc; rw [if_neg k1, if_neg k2, if_neg k3, if_neg k4, if_pos k5, e, hD])
 · refine later_S fun z hzz hz0 hz1 hz2 => ?_
   rw [zaw]
   have wn : zy5 .i64 (now + z) = now + z := w64 (by omega) (by omega)
   rw [wn]
   refine ⟨fun k a1 a2 a3 a4 a5 a6 a7 a8 r1 r2 x8 r3 t X1 X2 r4 x9 X3 => ∃ (j : Nat) (s1 : Wk) (lo : Int), k = (j : Int) ∧ C.ty = a1 ∧ C.bl.map eB = a2 ∧ C.pl = a3 ∧ C.bays.map eYb = a4 ∧ C.ch = a5 ∧ 200 = a6 ∧ 1 = a7 ∧ 500 = a8 ∧ s1.js.map za2 = r1 ∧ s1.p.map eT = r2 ∧ 562 = x8 ∧ s1.b.map eT = r3 ∧ zfl s1.b = t ∧ Ob.of (qS s1.T 256 s1.next) = X1 ∧ Ob.of (zix s1.Lg) = X2 ∧ s1.ds.map eD = r4 ∧ s1.g = x9 ∧ Ob.of (zta s1.l) = X3 ∧
    WV C (6 + 16 * n) (1 + 300 * (n : Int) + j) s1 ∧ zcl s1.Lg ≤ lo ∧ (∀ t ∈ s1.T, lo ≤ t.1) ∧ now ≤ lo ∧ lo ≤ now + z ∧ (∀ t, tyQ t s1.b = tyQ t s.b) ∧ Per s.js s1.js ∧ j + live s1.js ≤ 64 ∧ latG (256 - j) (nT s1) (now + z) = latG 256 (nT s) (now + z),
    fun k _ _ _ _ _ _ _ _ _ _ _ _ _ _ _ _ _ _ => (256 - k).toNat, ⟨0, s, now, rfl, rfl, rfl, rfl, rfl, rfl, rfl, rfl, rfl, rfl, rfl, rfl, rfl, rfl, rfl, rfl, rfl, rfl, rfl, hW.up (zzk _) (by omega), hl, fun t ht => by have := hd t ht; omega, zzw _, by omega, fun _ => rfl, Per.refl _, by have h1 := zep (P := Pl) (f := (·.id)) s.js; have h2 := B.jlen; show 0 + (za6 Pl (·.id) s.js).length ≤ 64; omega, rfl⟩, ?_⟩
   rintro _ _ _ _ _ _ _ _ _ _ _ _ _ _ _ _ _ _ _ ⟨j, s1, lo, rfl, rfl, rfl, rfl, rfl, rfl, rfl, rfl, rfl, rfl, rfl, rfl, rfl, rfl, rfl, rfl, rfl, rfl, rfl, hW1, hl1, hd1, hlo, hlo2, hty, hper, hj, hlat⟩
   have B1 := hW1.wb hC (by omega) (by omega)
   refine cIf (fun hj256 => ?_) fun h => by omega
   rw [show 256 - j = (255 - j) + 1 by omega] at hlat
   refine pop_S (fun hno => ?_) fun t T' hpm htn hmin => ?_
   · show Q _ _
     exact K (now + z) 0 0 s1 (by omega) (by omega) (fun _ h => by rw [hz2 h]) (hW1.up (by omega) (by omega)) (by omega) hno (fun _ => hty) (fun h => absurd rfl h) (fun _ => hper) (by
      have hpn : popT (now + z) (zfm s1.T) = none := by
       cases h : zfm s1.T with
       | nil => rfl
       | cons t l =>
         have := hno t ((zap s1.T).mem_iff.1 (by rw [h]; exact zz1))
         exact if_neg (by omega)
      have h2 : latG ((255 - j) + 1) (nT s1) (now + z) = nT s1 := by
       show (match popT (now + z) (zfm s1.T) with | none => nT s1 | some (t, T') => _) = _
       rw [hpn]
      unfold ztc
      rw [if_neg k1, if_neg k2, if_neg k3, if_neg k4, if_neg k5, ← hzz, ← hlat, h2])
   · rw [zwj]
     refine ⟨by decide, ?_⟩
     have htm : t ∈ s1.T := hpm.mem_iff.1 zz1
     obtain ⟨i1, d1, hi1, hs2, hdp⟩ := hW1.wt.timer htm
     have hjo := B1.jok i1 d1 hi1
     have e1 : t.1 = d1.fin := congrArg Prod.fst hdp
     have e2 : t.2.2 = 2 * d1.id := congrArg Prod.snd hdp
     have hlt1 := (zza.1 hi1).1
     have hjl := B1.jlen
     have hlot := hd1 t htm
     have etd : zy5 .i64 (Int.tdiv t.2.2 2) = d1.id := by
      rw [e2, z2w (by omega), show (2 * d1.id) / 2 = d1.id by omega, w64 (by omega) (by omega)]
     rw [etd]
     have hjE : jE 4 d1 t.1 = 0 := jE_zero.2 ⟨hjo.1, inJ_iff.2 ⟨by omega, by omega⟩, by unfold zmu; rw [hs2, decide_eq_true (by omega)]; rfl⟩
     have hnone : ∀ x ∈ T', x.2.2 ≠ 2 * d1.id := fun x hx e => by
      have hx1 := hpm.mem_iff.1 (zzy _ hx)
      have h1 := (hW1.wt.timS hi1 hx1 e).1
      have hnd : (s1.T.map tp).Nodup := by
       refine (hW1.wt.tim.nodup_iff).2 ?_
       unfold za6
       refine z19.2 ?_
       have : s1.js.Pairwise fun a b => a.id ≠ b.id := by
        rw [z1q]
        intro a b ha hb hab
        have h1 := (B1.jok a _ (zzb ha)).2.1
        have h2 := (B1.jok b _ (zzb hb)).2.1
        omega
       refine (this.filter _).imp fun {a b} hab e => hab ?_
       have := congrArg Prod.snd e
       simp only at this
       omega
      have hnd2 := ((hpm.map tp).nodup_iff).2 hnd
      rw [zzv] at hnd2
      refine (z02.1 hnd2).1 (zz6.2 ⟨x, hx, ?_⟩)
      rw [h1, hdp]
     have hl2 := hpm.length_eq
     simp only [zzr] at hl2
     have Bp : WB C { s1 with T := T' } := { B1 with ids := zr3 B1.ids hpm, Tlen := by have := B1.Tlen; show (T'.length : Int) < 256; omega }
     refine fire_S (s := { s1 with T := T' }) Bp (fun i d2 hg hid he => ?_) (fun e _ hbad => ?_) fun i d2 s2 hg hid he hL => ?_
     · have hii : i = i1 := by have := hjo.2.1; omega
       subst hii
       have hg : s1.js[i]? = some d2 := hg
       rw [hi1] at hg; cases hg
       have := hW1.wt.lvOk (now := t.1) (j2 := jDo 4 d1 t.1) hi1 ⟨by omega, by omega⟩
       exact this
     · exact absurd hjE (hbad i1 d1 hi1 hjo.2.1)
     · have hii : i = i1 := by have := hjo.2.1; omega
       subst hii
       have hg : s1.js[i]? = some d2 := hg
       rw [hi1] at hg; cases hg
       rw [zcq]
       have hnd3 : (T'.map fun t => t.2.2).Nodup := (z02.1 ((hpm.map fun t => t.2.2).nodup_iff.2 hW1.wt.whats)).2
       have hdf3 : DifT T' := (z0h.1 (DifT.perm hpm.symm hW1.wt.ids)).2
       have hF := firG_ok hW1.wt hi1 hjo.2.1 hjE hnd3 hdf3 hL
       have h2 : latG ((255 - j) + 1) (nT s1) (now + z) = latG (255 - j) (nT { s2 with Lg := znd s2.Lg (t.1, 1, d1.id, 4) }) (now + z) := by
        show (match popT (now + z) (zfm s1.T) with | none => nT s1 | some (t, T') => latG (255 - j) (firG { nT s1 with T := T' } t.1 (t.2.2 / 2)).2 (now + z)) = _
        rw [srtT_min hpm hmin hW1.wt.ids, show popT (now + z) (t :: zfm T') = some (t, zfm T') from if_pos htn]
        show latG (255 - j) (firG (nT { s1 with T := T' }) t.1 (t.2.2 / 2)).2 (now + z) = _
        rw [e2, show (2 * d1.id) / 2 = d1.id by omega, hF]
       rw [h2] at hlat
       have hL2 : Lvs { s1 with js := s1.js.set i (jDo 4 d1 t.1) } d1.id t.1 s2 := lvs_pop (s := { s1 with js := s1.js.set i (jDo 4 d1 t.1) }) hpm e2 hnone hL
       obtain ⟨ea, w1, R⟩ := hW1.fire hi1 hjE e1 (by omega) hL2
       rw [ea] at hlat ⊢
       have ej : zy5 .i64 ((j : Int) + 1) = ((j + 1 : Nat) : Int) := by rw [w64 (by omega) (by omega)]; omega
       rw [ej]
       have hlv := (R.live hi1).1
       have hls := zdu (e := jDo 4 d1 t.1) hi1
       rw [if_pos (by omega), if_neg (by show ¬ (4 : Int) ≤ 3; omega)] at hls
       have hp1 : Per s1.js s2.js := by
        have p1 : Per s1.js (s1.js.set i (jDo 4 d1 t.1)) := Per.set hi1 (fun _ => ⟨.inr rfl, rfl⟩) fun h => by omega
        rcases R.js with e | ⟨m, a, hne, ha, hae, e⟩
        · rw [e]; exact p1
        · rw [e]
          have hst := (zgs hae).2
          exact p1.trans (Per.set (j := a) (by rw [zz0 (Ne.symm hne)]; exact ha) (fun h => by omega) fun h => by omega)
       refine ⟨⟨j + 1, { s2 with Lg := s1.Lg ++ [(t.1, 1, d1.id, 4)] }, t.1, by first | trivial | rfl, by first | trivial | rfl, by first | trivial | rfl, by first | trivial | rfl, by first | trivial | rfl, by first | trivial | rfl, by first | trivial | rfl, by first | trivial | rfl, by first | trivial | rfl, by first | trivial | rfl, by first | trivial | rfl, by first | trivial | rfl, by first | trivial | rfl, by first | trivial | rfl, by first | trivial | rfl, by first | trivial | rfl, by first | trivial | rfl, by first | trivial | rfl, by first | trivial | rfl, w1.up (zzk _) (by omega), ?_, fun x hx => ?_, by omega, htn, fun u => ?_, hper.trans hp1, ?_, ?_⟩, ?_⟩
       · show zcl (s1.Lg ++ [(t.1, 1, d1.id, 4)]) ≤ t.1
         rw [zkp]; exact zzw _
       · rcases R.due x hx with h | h
         · have := hmin x h
           unfold leT at this
           omega
         · omega
       · show tyQ u s2.b = _
         rw [R.b]; exact hty u
       · show j + 1 + live s2.js ≤ 64
         omega
       · rw [show 256 - (j + 1) = 255 - j by omega]
         exact hlat
       · dsimp only; omega
end
section
set_option maxRecDepth 1000000
variable {Q : V → Mem → Prop}
theorem sameJ1_S (hn : j.needs.length ≤ 1000) (k : Q (.u (.b true)) []) : PRun Tryz.prog 43 [] [jV j, jV j] Q := by
 refine S43 ?_
 intro k1 hk1
 have e : ∀ {n : Int} {A B : Prop}, A → (bif n == n then A else B : Prop) := fun {n A B} h => cEq (fun _ => h) fun h => absurd rfl h
 refine e (e (e (e (e (e (e (e (e (e (e (same_S (by omega) (by omega) ?_)))))))))))
 rw [zbk, decide_eq_true rfl, cond_true]
 refine e (e (e (hk1 _ ?_)))
 rw [beq_self_eq_true]
 exact k
theorem sameJ_S (hs : shJ js) (hl : js.length ≤ 1000) (k : Q (.u (.b true)) []) : PRun Tryz.prog 15 [] [.l 16 (js.map za2), .l 16 (js.map za2)] Q := by
 have hlen : ((js.map za2).length : Int) = (js.length : Int) := by rw [zzc]
 refine S15 (cNe (fun h => absurd rfl h) fun _ => ?_)
 refine ⟨fun x => ∃ i : Nat, x = (i : Int) ∧ i ≤ js.length, fun x => (js.length - x).toNat, ⟨0, rfl, zz3 _⟩, ?_⟩
 rintro _ ⟨i, rfl, hi⟩
 rw [hlen]
 refine cIf (fun hc => cIf (fun _ => ?_) fun h => absurd hc h) fun hc => k
 have hlt : i < js.length := by omega
 have hg := zzb hlt
 have el : ∀ {F : List U → Prop}, elL (js.map za2) (i : Int) F = F (za2 js[i]) := fun {F} => zah (by omega) (by rw [zzs, zzg, hg]; rfl)
 rw [el]
 refine dJx ?_
 rw [el]
 refine dJx (sameJ1_S (hs _ (z1x hlt)) ?_)
 rw [zbk]
 have e1 : zy5 .i64 ((i : Int) + 1) = ((i + 1 : Nat) : Int) := by rw [w64 (by omega) (by omega)]; omega
 rw [e1]
 exact ⟨⟨i + 1, by first | trivial | rfl, by omega⟩, by dsimp only; omega⟩
theorem dJ0 (k : K j.id) : dI .i64 (ug (za2 j) 0) K := k
theorem dJ6 (k : K j.draft) : dI .i64 (ug (za2 j) 6) K := k
theorem dJ12 (k : K j.st) : dI .i64 (ug (za2 j) 12) K := k
theorem dJ14 (k : K j.fin) : dI .i64 (ug (za2 j) 14) K := k
theorem zv5 (K : Q (.u (.b (ze2 j))) []) : PRun Tryz.prog 45 [] [jV j] Q := by
 have ej : ze2 j = (j.st == 1 || (j.st == 2 || (j.st == 3 || j.st == 4))) := by
  rw [Bool.eq_iff_iff, jOpen_iff]
  simp only [Bool.or_eq_true, beq_iff_eq]
  omega
 rw [ej] at K
 refine S45 (cEq (fun h => ?_) fun h1 => cEq (fun h => ?_) fun h2 => cEq (fun h => ?_) fun h3 => ?_)
 · rw [h] at K; exact K
 · rw [h] at K; exact K
 · rw [h] at K; exact K
 · rw [show (j.st == 1) = false by simpa using h1, show (j.st == 2) = false by simpa using h2, show (j.st == 3) = false by simpa using h3] at K
   simpa using K
section
variable {C : Kt} {s : Wk}
theorem WT.tpnd (h : WT C s) : (s.T.map tp).Nodup := by
 refine (h.tim.nodup_iff).2 ?_
 unfold za6
 refine z19.2 ?_
 have : s.js.Pairwise fun a b => a.id ≠ b.id := by
  rw [z1q]
  intro a b ha hb hab
  have h1 := (h.jok a _ (zzb ha)).2.1
  have h2 := (h.jok b _ (zzb hb)).2.1
  omega
 refine (this.filter _).imp fun {a b} hab e => hab ?_
 have := congrArg Prod.snd e
 simp only at this
 omega
theorem zve (h : WT C s) (K : Q (.u (.b true)) (W8 C s)) : PRun Tryz.prog 16 (W8 C s) [.a [.r 0 0, .r 1 0, .r 2 0, .r 3 0, .r 4 0], .l 16 (s.js.map za2)] Q := by
 have hjl := h.jlen
 have hlen : ((s.js.map za2).length : Int) = (s.js.length : Int) := by rw [zzc]
 refine S16 (zwh fun ys hys => ?_)
 rw [zwp]
 have hyl : ((ys.map rT).length : Int) = (ys.length : Int) := by rw [zzc]
 have hTl := h.Tlen
 have hyT := hys.length_eq
 have htm := h.tim.length_eq
 rw [zzc] at htm
 have hcnt : ∀ i : Nat, i ≤ s.js.length → (za6 Pq fq (s.js.take i)).length ≤ i := fun i hi => by
  have := zep (P := Pq) (f := fq) (s.js.take i)
  rw [zz9] at this
  omega
 refine ⟨fun c x => ∃ i : Nat, x = (i : Int) ∧ i ≤ s.js.length ∧ c = ((za6 Pq fq (s.js.take i)).length : Int), fun _ x => (s.js.length - x).toNat, ⟨0, rfl, zz3 _, rfl⟩, ?_⟩
 rintro _ _ ⟨i, rfl, hi, rfl⟩
 rw [hlen]
 refine cIf (fun hc => ?_) fun hc => ?_
 · have hlt : i < s.js.length := by omega
   have hg := zzb hlt
   generalize hjj : s.js[i] = j at hg
   have el : ∀ {F : List U → Prop}, elL (s.js.map za2) (i : Int) F = F (za2 j) := fun {F} => zah (by omega) (by rw [zzs, zzg, hg]; rfl)
   have e1 : zy5 .i64 ((i : Int) + 1) = ((i + 1 : Nat) : Int) := by rw [w64 (by omega) (by omega)]; omega
   have hsnoc : za6 Pq fq (s.js.take (i + 1)) = za6 Pq fq (s.js.take i) ++ (if j.st = 2 then [fq j] else []) := by
    rw [z18 hlt, hjj, zci]
    by_cases e : j.st = 2
    · rw [if_pos e, zib _ (by simpa using e)]; rfl
    · rw [if_neg e, zkb _ (by simpa using e)]; rfl
   have hb := hcnt i hi
   rw [el, e1]
   refine dJ12 (cNe (fun hne => ?_) fun heq => ?_)
   · rw [if_neg hne, zz7] at hsnoc
     exact ⟨⟨i + 1, by first | trivial | rfl, by omega, by rw [hsnoc]⟩, by dsimp only; omega⟩
   · rw [if_pos heq] at hsnoc
     refine ⟨fun c x => ∃ k : Nat, x = (k : Int) ∧ k ≤ ys.length ∧ c = (((ys.take k).map tp).count (fq j) : Int), fun _ x => (ys.length - x).toNat, ⟨0, rfl, zz3 _, rfl⟩, ?_⟩
     rintro _ _ ⟨k, rfl, hk, rfl⟩
     rw [hyl]
     refine cIf (fun hc2 => ?_) fun hc2 => ?_
     · have hlt2 : k < ys.length := by omega
       have hg2 := zzb hlt2
       generalize htt : ys[k] = t at hg2
       have el2 : ∀ {F : List U → Prop}, elL (ys.map rT) (k : Int) F = F (rT t) := fun {F} => zah (by omega) (by rw [zzs, zzg, hg2]; rfl)
       have e2 : zy5 .i64 ((k : Int) + 1) = ((k + 1 : Nat) : Int) := by rw [w64 (by omega) (by omega)]; omega
       have hsn2 : ((ys.take (k + 1)).map tp).count (fq j) = ((ys.take k).map tp).count (fq j) + (if tp t = fq j then 1 else 0) := by
        rw [z18 hlt2, htt, zz2, List.count_append]
        simp only [zzv, z1m, List.count_cons, List.count_nil, zzo, beq_iff_eq]
       have hcb : ((ys.take k).map tp).count (fq j) ≤ k := by
        have := List.count_le_length (a := fq j) (l := (ys.take k).map tp)
        rw [zzc, zz9] at this
        omega
       have hjid := (h.jok i j hg)
       have hfix := zgr hjid.1
       have hid : j.id ≤ 64 := by have := hjid.2.1; omega
       have e3 : zy5 .i64 (((((ys.take k).map tp).count (fq j) : Nat) : Int) + 1) = ((((ys.take k).map tp).count (fq j) + 1 : Nat) : Int) := by rw [w64 (by omega) (by omega)]; omega
       have no : tp t ≠ fq j → ∃ k' : Nat, ((k + 1 : Nat) : Int) = (k' : Int) ∧ k' ≤ ys.length ∧ ((((ys.take k).map tp).count (fq j) : Nat) : Int) = ((((ys.take k').map tp).count (fq j) : Nat) : Int) := fun hne => ⟨k + 1, rfl, by omega, by rw [hsn2, if_neg hne]; rfl⟩
       rw [el2]
       simp only [rT, ug0, ugs, zbo]
       rw [el]
       refine dJ0 ?_
       rw [w64 (x := 2 * j.id) (by omega) (by omega), e2]
       refine cEq (fun hw => ?_) fun hw => ?_
       · rw [el2]
         simp only [rT, ug0, ugs, zbo]
         rw [el]
         refine dJ14 (cEq (fun ha => ?_) fun ha => ?_)
         · rw [e3]
           have ht : tp t = fq j := Prod.ext ha hw
           exact ⟨⟨k + 1, by first | trivial | rfl, by omega, by rw [hsn2, if_pos ht]⟩, by first | omega | (dsimp only; omega)⟩
         · exact ⟨no fun e => ha (congrArg Prod.fst e), by first | omega | (dsimp only; omega)⟩
       · exact ⟨no fun e => hw (congrArg Prod.snd e), by first | omega | (dsimp only; omega)⟩
     · have : k = ys.length := by omega
       subst this
       rw [z0m]
       have hone : (ys.map tp).count (fq j) = 1 := by
        rw [(hys.map tp).count_eq]
        obtain ⟨t, ht, he⟩ := h.has hg heq
        rw [h.tpnd.count, if_pos (zz6.2 ⟨t, ht, he⟩)]
       rw [hone]
       refine cNe (fun h => absurd rfl h) fun _ => ?_
       rw [w64 (by omega) (by omega)]
       exact ⟨⟨i + 1, by first | trivial | rfl, by omega, by rw [hsnoc, zzx]; simp⟩, by dsimp only; omega⟩
 · have : i = s.js.length := by omega
   subst this
   rw [z0m, hyl]
   have e : (((za6 Pq fq s.js).length : Nat) : Int) = (ys.length : Int) := by omega
   rw [e, beq_self_eq_true]
   exact K
end
end
section
set_option maxRecDepth 1000000
variable {Q : V → Mem → Prop}
abbrev P12 (j : Jb) : Bool := j.st == 1 || j.st == 2
def znf : List Sd → Nat
 | [] => 0
 | x :: l => x.run.length + x.wait.length + znf l
theorem zlu : ∀ (l m : List Sd), znf (l ++ m) = znf l + znf m
 | [], m => by simp [znf]
 | x :: l, m => by simp only [z0g, znf, zlu l m]; omega
theorem cnt4 : ∀ {js : List Jb}, (∀ j ∈ js, 0 ≤ jAt j ∧ jAt j < 4) → (za6 (Pr 0) (·.id) js).length + (za6 (Pw 0) (·.id) js).length + ((za6 (Pr 1) (·.id) js).length + (za6 (Pw 1) (·.id) js).length) + ((za6 (Pr 2) (·.id) js).length + (za6 (Pw 2) (·.id) js).length) + ((za6 (Pr 3) (·.id) js).length + (za6 (Pw 3) (·.id) js).length) = (za6 P12 (·.id) js).length
 | [], _ => rfl
 | j :: js, h => by
   have ih := cnt4 (js := js) fun x hx => h x (zzy _ hx)
   have hb := h j zz1
   have sel : ∀ (P : Jb → Bool), (za6 P (·.id) (j :: js)).length = (if P j = true then 1 else 0) + (za6 P (·.id) js).length := fun P => by
    by_cases e : P j = true
    · rw [zib _ e, if_pos e, zzr]; omega
    · rw [zkb _ (by simpa using e), if_neg e]; omega
   rw [sel, sel, sel, sel, sel, sel, sel, sel, sel]
   have key : (if Pr 0 j = true then 1 else 0) + (if Pw 0 j = true then 1 else 0) + ((if Pr 1 j = true then 1 else 0) + (if Pw 1 j = true then 1 else 0)) + ((if Pr 2 j = true then 1 else 0) + (if Pw 2 j = true then 1 else 0)) + ((if Pr 3 j = true then 1 else 0) + (if Pw 3 j = true then 1 else 0)) = (if P12 j = true then 1 else 0) := by
    have hk : jAt j = 0 ∨ jAt j = 1 ∨ jAt j = 2 ∨ jAt j = 3 := by omega
    by_cases h1 : j.st = 1
    · rcases hk with e | e | e | e <;> simp [Pr, Pw, P12, h1, e]
    · by_cases h2 : j.st = 2
      · rcases hk with e | e | e | e <;> simp [Pr, Pw, P12, h2, e]
      · simp [Pr, Pw, P12, h1, h2]
   omega
section
variable {C : Kt} {s : Wk} {M : Nat} {N : Int}
theorem WT.tot (h : WT C s) : znf s.l = (za6 P12 (·.id) s.js).length := by
 have h4 := h.l4
 have hr := h.run
 have hw := h.wait
 have hb : ∀ j ∈ s.js, 0 ≤ jAt j ∧ jAt j < 4 := fun j hj => by
  obtain ⟨i, hi⟩ := z0e.1 hj
  exact jAt_bd (h.jok i j hi).2.2
 match hl : s.l, h4 with
 | [a, b, c, d], _ =>
   rw [hl] at hr hw
   have r0 := (hr 0 a rfl).length_eq
   have r1 := (hr 1 b rfl).length_eq
   have r2 := (hr 2 c rfl).length_eq
   have r3 := (hr 3 d rfl).length_eq
   have w0 := (hw 0 a rfl).length_eq
   have w1 := (hw 1 b rfl).length_eq
   have w2 := (hw 2 c rfl).length_eq
   have w3 := (hw 3 d rfl).length_eq
   have := cnt4 hb
   simp only [znf]
   omega
theorem post_L28 {F : List (List U) → FWk} : post [.L 2] zur F (.l 2 r) (W8 C s) = apW C s (F r) := by kernel_rfl
theorem zxi (hC2 : C.bays.length = 2) (hW : WV C M N s) (K : Q (.u (.b true)) (W9 C s)) : PRun Tryz.prog 17 (W8 C s) [ctV C, .a [.r 0 0, .r 1 0, .r 2 0, .r 3 0, .r 4 0], .l 16 (s.js.map za2)] Q := by
 have h := hW.wt
 have hjl := h.jlen
 have h4 := h.l4
 have hlen : ((s.js.map za2).length : Int) = (s.js.length : Int) := by rw [zzc]
 have hll : ((s.l.map lnR).length : Int) = 4 := by rw [zzc]; omega
 have hbl : zy5 .i64 (2 * ((C.bays.map eYb).length : Int)) = 4 := by rw [zzc, hC2]; decide
 have tb : ∀ k : Nat, k ≤ 4 → znf (s.l.take k) ≤ 128 * k := fun k => by
  induction k with
  | zero => intro _; simp [znf]
  | succ k ih =>
    intro hk
    have hlt : k < s.l.length := by omega
    rw [z18 hlt, zlu]
    have := h.rlen (z1x hlt)
    have := ih (by omega)
    simp only [znf]
    omega
 refine S17 (wlines_S ?_)
 rw [post_L28]
 show (bif ((s.l.map lnR).length : Int) != zy5 .i64 (2 * ((C.bays.map eYb).length : Int)) then _ else _ : Prop)
 rw [hll, hbl]
 refine cNe (fun h => absurd rfl h) fun _ => ?_
 refine ⟨fun n x => ∃ k : Nat, x = (k : Int) ∧ k ≤ 4 ∧ n = (znf (s.l.take k) : Int), fun _ x => (4 - x).toNat, ⟨0, rfl, by omega, rfl⟩, ?_⟩
 rintro _ _ ⟨k, rfl, hk, rfl⟩
 refine cIf (fun hc => ?_) fun hc => ?_
 · have hlt : k < s.l.length := by omega
   have hg := zzb hlt
   have hsn : znf (s.l.take (k + 1)) = znf (s.l.take k) + (s.l[k].run.length + s.l[k].wait.length) := by
    rw [z18 hlt, zlu]
    simp only [znf]
    omega
   have hrl := h.rlen (z1x hlt)
   have hrm := h.room _ (z1x hlt)
   generalize s.l[k] = x at hg hsn hrl hrm
   obtain ⟨y, hy, hn⟩ := h.slot k x hg
   have etd : zy5 .i64 (Int.tdiv (k : Int) 2) = ((k / 2 : Nat) : Int) := by
    rw [z2w (by omega), w64 (by omega) (by omega)]; omega
   have etm : Int.tmod (k : Int) 2 = ((k % 2 : Nat) : Int) := by
    rw [Int.tmod_eq_emod_of_nonneg (by omega)]; omega
   have ely : ∀ {F : List U → Prop}, elL (C.bays.map eYb) ((k / 2 : Nat) : Int) F = F (eYb y) := fun {F} => zah (by omega) (by rw [zzs, zzg, hy]; rfl)
   have ell : ∀ {F : List U → Prop}, elL (s.l.map lnR) (k : Int) F = F (lnR x) := fun {F} => zah (by omega) (by rw [zzs, zzg, hg]; rfl)
   have hr1 : ((x.run.map eI).length : Int) = (x.run.length : Int) := by rw [zzc]
   have hr2 : ((x.wait.map eI).length : Int) = (x.wait.length : Int) := by rw [zzc]
   have ek : zy5 .i64 ((k : Int) + 1) = ((k + 1 : Nat) : Int) := by rw [w64 (by omega) (by omega)]; omega
   have htb := tb k hk
   have ew : zy5 .i64 (zy5 .i64 ((znf (s.l.take k) : Int) + (x.run.length : Int)) + (x.wait.length : Int)) = (znf (s.l.take (k + 1)) : Int) := by
    rw [hsn, w64 (x := (znf (s.l.take k) : Int) + (x.run.length : Int)) (by omega) (by omega), w64 (by omega) (by omega)]; omega
   refine ⟨by decide, ?_⟩
   rw [etd, ely]
   simp only [eYb, ug0, ugs, zbo]
   refine ⟨by decide, ?_⟩
   rw [etm]
   refine cEq (fun hm => ⟨by decide, ?_⟩) fun hm => ?_
   · rw [ely]
     simp only [eYb, ug0, ugs, zbo]
     rw [ell]
     simp only [lnR, ug0, ugs, dL_l]
     rw [hr1]
     rw [if_neg (by omega)] at hn
     refine cIf (fun h => by omega) fun _ => ?_
     rw [ell]
     simp only [lnR, ug0, ugs, dL_l]
     rw [ell]
     simp only [lnR, ug0, ugs, dL_l]
     rw [hr1, hr2, ew, ek]
     exact ⟨⟨k + 1, by first | trivial | rfl, by omega, by first | trivial | rfl⟩, by first | omega | (dsimp only; omega)⟩
   · rw [ell]
     simp only [lnR, ug0, ugs, dL_l]
     rw [hr1]
     rw [if_pos (by omega)] at hn
     refine cIf (fun h => by omega) fun _ => ?_
     rw [ell]
     simp only [lnR, ug0, ugs, dL_l]
     rw [ell]
     simp only [lnR, ug0, ugs, dL_l]
     rw [hr1, hr2, ew, ek]
     exact ⟨⟨k + 1, by first | trivial | rfl, by omega, by first | trivial | rfl⟩, by first | omega | (dsimp only; omega)⟩
 · have : k = s.l.length := by omega
   subst this
   rw [z0m, h.tot]
   have hcb : ∀ i : Nat, (za6 P12 (·.id) (s.js.take i)).length ≤ 64 := fun i => by
    have := zep (P := P12) (f := (·.id)) (s.js.take i)
    rw [zz9] at this
    omega
   have hct := hcb s.js.length
   rw [z0m] at hct
   refine ⟨fun n x => ∃ i : Nat, x = (i : Int) ∧ i ≤ s.js.length ∧ n = ((za6 P12 (·.id) s.js).length : Int) - ((za6 P12 (·.id) (s.js.take i)).length : Int), fun _ x => (s.js.length - x).toNat, ⟨0, rfl, zz3 _, by simp [za6]⟩, ?_⟩
   rintro _ _ ⟨i, rfl, hi, rfl⟩
   rw [hlen]
   refine cIf (fun hc => ?_) fun hc => ?_
   · have hlt : i < s.js.length := by omega
     have hg := zzb hlt
     generalize hjj : s.js[i] = j at hg
     have el : ∀ {F : List U → Prop}, elL (s.js.map za2) (i : Int) F = F (za2 j) := fun {F} => zah (by omega) (by rw [zzs, zzg, hg]; rfl)
     have ei : zy5 .i64 ((i : Int) + 1) = ((i + 1 : Nat) : Int) := by rw [w64 (by omega) (by omega)]; omega
     have hsn : (za6 P12 (·.id) (s.js.take (i + 1))).length = (za6 P12 (·.id) (s.js.take i)).length + (if j.st = 1 ∨ j.st = 2 then 1 else 0) := by
      rw [z18 hlt, hjj, zci]
      by_cases e : j.st = 1 ∨ j.st = 2
      · rw [if_pos e, zib _ (by simpa using e)]; simp [za6]
      · rw [if_neg e, zkb _ (by simpa using e)]; simp [za6]
     have hc1 := hcb i
     intro k1 hk1
     have main : ∀ n : Int, n = ((za6 P12 (·.id) s.js).length : Int) - ((za6 P12 (·.id) (s.js.take (i + 1))).length : Int) → k1 n := fun n hn => by
      refine hk1 n ⟨fun x => ∃ m : Nat, x = (m : Int) ∧ m ≤ i, fun x => (i - x).toNat, ⟨0, rfl, zz3 _⟩, ?_⟩
      rintro _ ⟨m, rfl, hm⟩
      refine cIf (fun hc2 => ?_) fun hc2 => ?_
      · have hlt2 : m < s.js.length := by omega
        have hg2 := zzb hlt2
        generalize s.js[m] = a at hg2
        have el2 : ∀ {F : List U → Prop}, elL (s.js.map za2) (m : Int) F = F (za2 a) := fun {F} => zah (by omega) (by rw [zzs, zzg, hg2]; rfl)
        have em : zy5 .i64 ((m : Int) + 1) = ((m + 1 : Nat) : Int) := by rw [w64 (by omega) (by omega)]; omega
        rw [el]
        refine dJx (zv5 ?_)
        rw [zbk]
        refine cB (fun o1 => ?_) fun o1 => ?_
        · rw [el2]
          refine dJx (zv5 ?_)
          rw [zbk]
          refine cB (fun o2 => ?_) fun o2 => ?_
          · rw [el]
            refine dJ6 ?_
            rw [el2]
            refine dJ6 (cEq (fun e => ?_) fun _ => ?_)
            · exact absurd e.symm (hW.only hg hg2 (by omega) o1 o2)
            · rw [em]
              exact ⟨⟨m + 1, by first | trivial | rfl, by omega⟩, by first | omega | (dsimp only; omega)⟩
          · rw [em]
            exact ⟨⟨m + 1, by first | trivial | rfl, by omega⟩, by first | omega | (dsimp only; omega)⟩
        · rw [em]
          exact ⟨⟨m + 1, by first | trivial | rfl, by omega⟩, by first | omega | (dsimp only; omega)⟩
      · rw [ei]
        exact ⟨⟨i + 1, by first | trivial | rfl, by omega, hn⟩, by first | omega | (dsimp only; omega)⟩
     rw [el]
     refine dJ12 (cEq (fun h2 => main _ ?_) fun h2 => ?_)
     · rw [if_pos (.inr h2)] at hsn
       rw [w64 (by omega) (by omega)]; omega
     · rw [el]
       refine dJ12 (cEq (fun h1 => main _ ?_) fun h1 => main _ ?_)
       · rw [if_pos (.inl h1)] at hsn
         rw [w64 (by omega) (by omega)]; omega
       · rw [if_neg (by omega)] at hsn
         omega
   · have : i = s.js.length := by omega
     subst this
     rw [z0m, Int.sub_self]
     exact K
end
end
section
set_option maxRecDepth 100000
theorem mixTn3 : Tryz.prog.follows .mixedOrders = true := by kernel_rfl
theorem S4 {a : Int} {d : List (List U)} {Q : V → Mem → Prop} (hh : (PRun Tryz.prog 7 [] [.i a] (fun f7 f8 => f7 = .t [(q26 ), .u (.b true)] ∧ f8 = [.c [.i (ktW a).ty, .l 7 (zzq eB (ktW a).bl), .i (ktW a).pl, .l 4 (zzq eYb (ktW a).bays), .i (ktW a).ch, .i 200, .i 1, .i 500, .r 1 0, .r 2 0, .r 3 0, .r 4 0, .r 5 0, .r 6 0, .w 7], .c [.l 5 (zzq eT p0), .i 562], .c [.l 5 (zzq eT b0), .n .i64 33 (zfl b0)], .o (Ob.of (qS [] 256 1)), .o (Ob.of (zix [])), .c [.l 13 (zzq eD ds0), .i 5], .o (Ob.of (zta (ln0 a))), .w 48 16 []])) ∧ (bif decide ((zy6 d : Int) > 40) then PRun Tryz.prog 8 [] [] (post [.B] [] (fun f9 => (Q (.u (.b f9)) [] : Prop))) else PRun Tryz.prog 12 [] [.i a] (post [.agg [.i .i64, .l 7, .i .i64, .l 4, .i .i64, .i .i64, .i .i64, .i .i64], .L 2, .L 5, .L 9] [] (fun κ μ ν ξ ο π ρ σ u3 u4 u5 => (PRun Tryz.prog 13 [.c [.l 5 (zzq eT p0), .i 562]] [.r 0 0] (post q7 q9 (fun g0 g1 g2 => ∃ (f : Int → Int → Int → List (List U) → Int → List (List U) → Int → Int → Int → Int → List (List U) → List (List U) → Int → List (List U) → List Int → Ob → Ob → List (List U) → Int → Ob → Prop) (g : Int → Int → Int → List (List U) → Int → List (List U) → Int → Int → Int → Int → List (List U) → List (List U) → Int → List (List U) → List Int → Ob → Ob → List (List U) → Int → Ob → Nat), f 0 0 (ktW a).ty (zzq eB (ktW a).bl) (ktW a).pl (zzq eYb (ktW a).bays) (ktW a).ch 200 1 500 [] g1 g2 (zzq eT b0) (zfl b0) (Ob.of (qS [] 256 1)) (Ob.of (zix [])) (zzq eD ds0) 5 (Ob.of (zta (ln0 a))) ∧ (∀ h b i : Int, ∀ j : List (List U), ∀ k : Int, ∀ l : List (List U), ∀ m n o p : Int, ∀ q r : List (List U), ∀ s : Int, ∀ t : List (List U), ∀ u : List Int, ∀ v w : Ob, ∀ x : List (List U), ∀ y : Int, ∀ α : Ob, f h b i j k l m n o p q r s t u v w x y α → (bif decide (b < (zy6 d : Int)) then PRun Tryz.prog 14 (q15 t u) [.r 0 0, .i 1] (post q7 q3 (fun τ g3 g4 => (PRun Tryz.prog 14 (q15 g3 g4) [.r 0 0, .i 2] (post q7 q3 (fun υ g5 g6 => (PRun Tryz.prog 14 (q15 g5 g6) [.r 0 0, .i 3] (post q7 q3 (fun φ g7 g8 => (PRun Tryz.prog 14 (q15 g7 g8) [.r 0 0, .i 4] (post q7 q3 (fun χ g9 h0 => (PRun Tryz.prog 10 (q14 i j k l m n o p r s g9 h0 v w x y α q) [.r 0 0] (post [.L 16] q1 (fun h1 h2 h3 h4 h5 h6 h7 h8 h9 i0 i1 i2 i3 i4 i5 i6 i7 i8 i9 => (elL d b (fun c => dI .i64 (ug c 0) (fun j0 => dI .i64 (ug c 1) (fun j1 => dI .i64 (ug c 2) (fun j2 => dI .i64 (ug c 3) (fun j3 => dI .i64 (ug c 4) (fun j4 => dI .i64 (ug c 5) (fun j5 => dI .i64 (ug c 6) (fun j6 => dI .i64 (ug c 7) (fun j7 => dI .i64 (ug c 8) (fun j8 => dI .i64 (ug c 9) (fun j9 => dI .i64 (ug c 10) (fun k0 => PRun Tryz.prog 9 (q14 h2 h3 h4 h5 h6 h7 h8 h9 i1 i2 i3 i4 i5 i6 i7 i8 i9 i0) [(q26 ), .i h, .a [.i j0, .i j1, .i j2, .i j3, .i j4, .i j5, .i j6, .i j7, .i j8, .i j9, .i k0]] (post [.I, .I, .I] q1 (fun β u6 ε k1 k2 k3 k4 k5 k6 k7 k8 k9 l0 l1 l2 l3 l4 l5 l6 l7 l8 => (PRun Tryz.prog 10 (q14 k1 k2 k3 k4 k5 k6 k7 k8 l0 l1 l2 l3 l4 l5 l6 l7 l8 k9) [.r 0 0] (post [.L 16] q1 (fun e ψ ω a0 a1 a2 a3 a4 a5 a6 l9 m0 γ δ a7 a8 a9 b1 b2 => (PRun Tryz.prog 13 [.c [.l 5 l9, .i m0]] [.r 0 0] (post q7 q9 (fun m1 b3 b4 => (bif m1 != g0 then Q (.u (.b false)) [] else (bif ε != 0 then PRun Tryz.prog 15 [] [.l 16 h1, .l 16 e] (post [.B] [] (fun m2 => (bif !m2 then Q (.u (.b false)) [] else ∀ ζ : List (List U) → List Int → Prop, (∀ b5 : List (List U), ∀ b6 : List Int, (PRun Tryz.prog 16 (q14 ψ ω a0 a1 a2 a3 a4 a5 b3 b4 b5 b6 a7 a8 a9 b1 b2 a6) [(q26 ), .l 16 e] (post [.B] q1 (fun m3 m4 m5 m6 m7 m8 m9 n0 n1 n2 n3 n4 n5 n6 n7 n8 n9 o0 o1 => (bif !m3 then Q (.u (.b false)) [] else PRun Tryz.prog 17 (q14 m4 m5 m6 m7 m8 m9 n0 n1 n3 n4 n5 n6 n7 n8 n9 o0 o1 n2) [(q24 κ μ ν ξ ο π ρ σ), q26 , .l 16 e] (post [.B] q1 (fun o2 b7 b8 b9 c0 c1 c2 c3 c4 c5 c6 c7 c8 c9 d0 d1 d2 d3 d4 => (bif !o2 then Q (.u (.b false)) [] else f β (zy5 .i64 (b + 1)) b7 b8 b9 c0 c1 c2 c3 c4 c5 c6 c7 c8 c9 d0 d1 d2 d3 d4 ∧ g β (zy5 .i64 (b + 1)) b7 b8 b9 c0 c1 c2 c3 c4 c5 c6 c7 c8 c9 d0 d1 d2 d3 d4 < g h b i j k l m n o p q r s t u v w x y α : Prop))) : Prop)))) → ζ b5 b6) → ∀ η : Bool → Prop, (∀ d5 : Bool, ((bif d5 then PRun Tryz.prog 14 (q15 γ δ) [.r 0 0, .i 1] (post q7 q3 (fun o3 o4 o5 => (bif o3 != τ then Q (.u (.b false)) [] else PRun Tryz.prog 14 (q15 o4 o5) [.r 0 0, .i 2] (post q7 q3 (fun o6 o7 o8 => (bif o6 != υ then Q (.u (.b false)) [] else PRun Tryz.prog 14 (q15 o7 o8) [.r 0 0, .i 3] (post q7 q3 (fun o9 p1 p2 => (bif o9 != φ then Q (.u (.b false)) [] else PRun Tryz.prog 14 (q15 p1 p2) [.r 0 0, .i 4] (post q7 q3 (fun p3 p4 p5 => (bif p3 != χ then Q (.u (.b false)) [] else ζ p4 p5 : Prop))) : Prop))) : Prop))) : Prop))) else ζ γ δ)) → η d5) → elL d b (fun p6 => dI .i64 (ug p6 0) (fun p7 => (bif p7 != 5 then η true else η (ε != 0)))) : Prop))) else ∀ θ : List (List U) → List Int → Prop, (∀ d6 : List (List U), ∀ d7 : List Int, (PRun Tryz.prog 16 (q14 ψ ω a0 a1 a2 a3 a4 a5 b3 b4 d6 d7 a7 a8 a9 b1 b2 a6) [(q26 ), .l 16 e] (post [.B] q1 (fun p8 p9 r0 r1 r2 r3 r4 r5 r6 r7 r8 r9 s0 s1 s2 s3 s4 s5 s6 => (bif !p8 then Q (.u (.b false)) [] else PRun Tryz.prog 17 (q14 p9 r0 r1 r2 r3 r4 r5 r6 r8 r9 s0 s1 s2 s3 s4 s5 s6 r7) [(q24 κ μ ν ξ ο π ρ σ), q26 , .l 16 e] (post [.B] q1 (fun s7 d8 d9 e0 e1 e2 e3 e4 e5 e6 e7 e8 e9 f0 f1 f2 f3 f4 f5 => (bif !s7 then Q (.u (.b false)) [] else f β (zy5 .i64 (b + 1)) d8 d9 e0 e1 e2 e3 e4 e5 e6 e7 e8 e9 f0 f1 f2 f3 f4 f5 ∧ g β (zy5 .i64 (b + 1)) d8 d9 e0 e1 e2 e3 e4 e5 e6 e7 e8 e9 f0 f1 f2 f3 f4 f5 < g h b i j k l m n o p q r s t u v w x y α : Prop))) : Prop)))) → θ d6 d7) → ∀ ι : Bool → Prop, (∀ f6 : Bool, ((bif f6 then PRun Tryz.prog 14 (q15 γ δ) [.r 0 0, .i 1] (post q7 q3 (fun s8 s9 t0 => (bif s8 != τ then Q (.u (.b false)) [] else PRun Tryz.prog 14 (q15 s9 t0) [.r 0 0, .i 2] (post q7 q3 (fun t1 t2 t3 => (bif t1 != υ then Q (.u (.b false)) [] else PRun Tryz.prog 14 (q15 t2 t3) [.r 0 0, .i 3] (post q7 q3 (fun t4 t5 t6 => (bif t4 != φ then Q (.u (.b false)) [] else PRun Tryz.prog 14 (q15 t5 t6) [.r 0 0, .i 4] (post q7 q3 (fun t7 t8 t9 => (bif t7 != χ then Q (.u (.b false)) [] else θ t8 t9 : Prop))) : Prop))) : Prop))) : Prop))) else θ γ δ)) → ι f6) → elL d b (fun u0 => dI .i64 (ug u0 0) (fun u1 => (bif u1 != 5 then ι true else ι (ε != 0))))) : Prop))) : Prop))) : Prop))))))))))))))) : Prop))) : Prop))) : Prop))) : Prop))) : Prop))) else PRun Tryz.prog 8 [] [] (post [.B] [] (fun u2 => (Q (.u (.b u2)) [] : Prop))))))) : Prop))))) : PRun Tryz.prog 4 [] [.i a, .l 11 d] Q :=
 zad mixTn3 Tryz.func4 (by kernel_rfl) (H := ⟨[((4, 7, 10), ⟨[(11, .I), (13, .I)], [(0, .c [.i .i64, .l 7, .i .i64, .l 4, .i .i64, .i .i64, .i .i64, .i .i64, .r 1 0, .r 2 0, .r 3 0, .r 4 0, .r 5 0, .r 6 0, .ow 48 16]), (1, .c [.l 5, .i .i64]), (2, .c [.l 5, .n 33]), (3, .A), (4, .A), (5, .c [.l 13, .i .i64]), (6, .A)]⟩)], [((4, 21, 15), ⟨[(104, .one .z), (105, .one .z), (106, .B)], []⟩), ((4, 26, 15), ⟨[(104, .one .z), (105, .one .z)], [(2, .c [.l 5, .n 33])]⟩)], [], [], [], false, 64, KN.no, false, (spKg 7 bgR)⟩) (n := 2) (by kernel_rfl) hh
end
section
set_option maxRecDepth 100000
theorem mixTa2 : Tryz.prog.follows .mixedOrders = true := by kernel_rfl
theorem S8 {Q : V → Mem → Prop} (hh : (PRun Tryz.prog 7 [] [.i 0] (fun a b => a = .t [(q26 ), .u (.b true)] ∧ b = [.c [.i (ktW 0).ty, .l 7 (zzq eB (ktW 0).bl), .i (ktW 0).pl, .l 4 (zzq eYb (ktW 0).bays), .i (ktW 0).ch, .i 200, .i 1, .i 500, .r 1 0, .r 2 0, .r 3 0, .r 4 0, .r 5 0, .r 6 0, .w 7], .c [.l 5 (zzq eT p0), .i 562], .c [.l 5 (zzq eT b0), .n .i64 33 (zfl b0)], .o (Ob.of (qS [] 256 1)), .o (Ob.of (zix [])), .c [.l 13 (zzq eD ds0), .i 5], .o (Ob.of (zta (ln0 0))), .w 48 16 []])) ∧ (PRun Tryz.prog 29 [.c [.i (ktW 0).ty, .l 7 (zzq eB (ktW 0).bl), .i (ktW 0).pl, .l 4 (zzq eYb (ktW 0).bays), .i (ktW 0).ch, .i 200, .i 1, .i 500, .r 1 0, .r 2 0, .r 3 0, .r 4 0, .r 5 0, .r 6 0, .w 7], .c [.l 5 (zzq eT p0), .i 562], .c [.l 5 (zzq eT b0), .n .i64 33 (zfl b0)], .o (Ob.of (qS [] 256 1)), .o (Ob.of (zix [])), .c [.l 13 (zzq eD ds0), .i 5], .o (Ob.of (zta (ln0 0))), .w 48 16 []] [.r 0 0, .i 5, .a [.i 1, .i 1, .i 0, .i 1, .i 1, .i 1, .i 2, .i 0]] (post q10 q1 (fun c d e f g h i j k l m n o p q r s t u v => (PRun Tryz.prog 29 (q14 e f g h i j k l n o p q r s t u v m) [.r 0 0, .i 5, .a [.i 1, .i 1, .i 0, .i 1, .i 1, .i 1, .i 2, .i 0]] (post q10 q1 (fun h8 w x y α β γ δ ε ζ η θ ι κ μ ν ξ ο π ρ => (PRun Tryz.prog 29 (q14 x y α β γ δ ε ζ θ ι κ μ ν ξ ο π ρ η) [.r 0 0, .i 6, .a [.i 1, .i 1, .i 0, .i 1, .i 3, .i 1, .i 2, .i 0]] (post q10 q1 (fun σ τ υ φ χ ψ ω a0 a1 a2 a3 a4 a5 a6 a7 a8 a9 b1 b2 b3 => (PRun Tryz.prog 30 (q14 υ φ χ ψ ω a0 a1 a2 a4 a5 a6 a7 a8 a9 b1 b2 b3 a3) [.r 0 0, .i 1] (post q2 q1 (fun h9 i0 i1 i2 i3 i4 i5 i6 i7 i8 b4 i9 j0 j1 b5 j2 b6 b7 b8 b9 c0 c1 c2 c3 c4 c5 c6 c7 c8 c9 d0 d1 d2 d3 d4 => (PRun Tryz.prog 9 (q14 b7 b8 b9 c0 c1 c2 c3 c4 c6 c7 c8 c9 d0 d1 d2 d3 d4 c5) [(q26 ), .i 6, .a [.i 0, .i 0, .i 100, .i 0, .i 0, .i 0, .i 0, .i 0, .i 0, .i 0, .i 0]] (post [.I, .I, .I] q1 (fun j3 j4 j5 d5 d6 d7 d8 d9 e0 e1 e2 e3 e4 e5 e6 e7 e8 e9 f0 f1 f2 => (bif c == 1 then (bif d == 0 then (bif w == 12 then (bif σ == 2 then (bif τ == 0 then (bif b6 == 0 then (bif b5 == 25 then (bif b4 == 2 then PRun Tryz.prog 31 (q14 d5 d6 d7 d8 d9 e0 e1 e2 e4 e5 e6 e7 e8 e9 f0 f1 f2 e3) [.r 0 0, .i 1] (post q7 q1 (fun f3 f4 f5 f6 f7 f8 f9 g0 g1 g2 g3 g4 g5 g6 g7 g8 g9 h0 h1 => (bif f3 == 0 then PRun Tryz.prog 32 (q15 g5 g6) [.r 0 0, q16 1 0 1 3] (post q7 q3 (fun h2 h3 h4 => (bif h2 == 20 then PRun Tryz.prog 31 (q14 f4 f5 f6 f7 f8 f9 g0 g1 g3 g4 h3 h4 g7 g8 g9 h0 h1 g2) [.r 0 0, .i 2] (post q7 q1 (fun h5 j6 j7 j8 j9 k0 k1 k2 k3 k4 k5 k6 k7 k8 k9 h6 l0 l1 l2 => (bif h5 == 0 then PRun Tryz.prog 33 [.o h6] [.r 0 0] (post [.L 4] [.A] (fun h7 l3 => (bif (zy6 h7 : Int) == 2 then Q (.u (.b true)) [] else Q (.u (.b false)) [] : Prop))) else Q (.u (.b false)) [] : Prop))) else Q (.u (.b false)) [] : Prop))) else Q (.u (.b false)) [] : Prop))) else Q (.u (.b false)) []) else Q (.u (.b false)) []) else Q (.u (.b false)) []) else Q (.u (.b false)) []) else Q (.u (.b false)) []) else Q (.u (.b false)) []) else Q (.u (.b false)) []) else Q (.u (.b false)) [] : Prop))) : Prop))) : Prop))) : Prop))) : Prop))))) : PRun Tryz.prog 8 [] [] Q :=
 zad mixTa2 Tryz.func8 (by kernel_rfl) (H := ⟨[], [], [34], [], [], false, 64, KN.no, false, (spKg 7 bgR)⟩) (n := 3) (by kernel_rfl) hh
end
section
set_option maxRecDepth 1000000
variable {Q : V → Mem → Prop}
theorem bl0_ok : ∀ b ∈ bl0, b.Rg ∧ zd2 b 32 = 0 := by
 intro b hb
 simp only [bl0, zze, z07, or_false] at hb
 rcases hb with rfl | rfl
 · refine ⟨⟨fun t ht => ?_, by decide⟩, blueE_ok.2 ⟨by decide, by decide, by decide, by decide, by decide, by decide, by decide, ⟨by decide, by decide, by decide⟩, by unfold zux; split <;> decide⟩⟩
   simp only [zze, z07, or_false] at ht
   rcases ht with rfl | rfl <;> decide
 · refine ⟨⟨fun t ht => ?_, by decide⟩, blueE_ok.2 ⟨by decide, by decide, by decide, by decide, by decide, by decide, by decide, ⟨by decide, by decide, by decide⟩, by unfold zux; split <;> decide⟩⟩
   simp only [zze, z07, or_false] at ht
   rcases ht with rfl <;> decide
theorem ktW_C (w : Int) : KtC (ktW w) where
 ok := {
  bays := rfl
  bay := fun y hy => by
   have h1 := w1_12 w; have h2 := w2_12 w; have h3 := w3_01 w
   simp only [ktW, zze, z07, or_false] at hy
   rcases hy with rfl | rfl
   · exact ⟨by show (1 : Int) ≤ 1 ∧ (1 : Int) ≤ 8; decide, by show (0 : Int) ≤ 1000 ∧ (1000 : Int) ≤ 10000; decide⟩
   · exact ⟨⟨by simp only; omega, by simp only; omega⟩, by show (0 : Int) ≤ 0 ∧ (0 : Int) ≤ 10000; decide⟩
  bl := by show bl0.length ≤ 1000; decide
  rg := fun b hb => (bl0_ok b hb).1
  q := show ∀ b ∈ bl0, ∀ s ∈ b.needs, s.2 ≤ 1099511627776 by decide }
 blue b hb := (bl0_ok b hb).2
theorem wk0_T (w : Int) : WT (ktW w) (wk0 w) where
 l4 := rfl
 slot k x hx := by
  match k, hx with
  | 0, hx => cases hx; exact ⟨_, rfl, rfl⟩
  | 1, hx => cases hx; exact ⟨_, rfl, rfl⟩
  | 2, hx => cases hx; exact ⟨_, rfl, rfl⟩
  | 3, hx => cases hx; exact ⟨_, rfl, rfl⟩
  | k + 4, hx => simp [wk0, newL] at hx
 room x hx := by
  have h1 := w1_12 w; have h3 := w3_01 w
  simp only [wk0, newL, zze, z07, or_false] at hx
  rcases hx with rfl | rfl | rfl | rfl <;> simp <;> omega
 run k x hx := by
  have := zzf hx
  simp only [wk0, newL, zze, z07, or_false] at this
  rcases this with rfl | rfl | rfl | rfl <;> exact .refl _
 wait k x hx := by
  have := zzf hx
  simp only [wk0, newL, zze, z07, or_false] at this
  rcases this with rfl | rfl | rfl | rfl <;> exact .refl _
 tim := .refl _
 ids := .nil
 lt t ht := by simp [wk0] at ht
 jok i j h := by simp [wk0] at h
 jlen := by show ([] : List Jb).length ≤ 64; decide
theorem wk0_V (w : Int) : WV (ktW w) (6 + 16 * 0) (1 + 300 * ((0 : Nat) : Int)) (wk0 w) where
 wt := wk0_T w
 pinv := p0_inv
 plen := by show p0.length ≤ 4; decide
 binv := b0_inv
 blen := by show b0.length ≤ 6; decide
 nx := by show (1 : Int) ≤ _; omega
 dnum := zyc
 dlen := by show ds0.length ≤ 64; decide
 glen := rfl
 dok d hd := by
  have hd : d ∈ ds0 := hd
  simp only [ds0, zze, z07, or_false] at hd
  rcases hd with rfl | rfl | rfl | rfl | rfl
  · exact ⟨by decide, by decide, _, rfl⟩
  · exact ⟨by decide, by decide, _, rfl⟩
  · exact ⟨by decide, by decide, _, rfl⟩
  · exact ⟨by decide, by decide, _, rfl⟩
  · exact ⟨by decide, by decide, _, rfl⟩
 dr i j h := by simp [wk0] at h
 mark i j h := by simp [wk0] at h
 mlen := rfl
 mid m h := by simp [wk0] at h
structure Aw where
 kind : Int
 id : Int
 an : Int
 o : Od
abbrev eAw (a : Aw) : List U := [.n a.kind, .n a.id, .n a.an, .n a.o.who, .n a.o.own, .n a.o.div, .n a.o.bay, .n a.o.draft, .n a.o.kind, .n a.o.runs, .n a.o.copies]
theorem zoq {α : Type} {f : α → List U} : ∀ {rows : List (List U)}, (∀ r ∈ rows, ∃ x, r = f x) → ∃ l : List α, rows = l.map f
 | [], _ => ⟨[], rfl⟩
 | r :: rows, h => by
   obtain ⟨x, rfl⟩ := h r zz1
   obtain ⟨l, rfl⟩ := zoq fun s hs => h s (zzy _ hs)
   exact ⟨x :: l, rfl⟩
abbrev dsW : Ds := (.i .i64 (.i .i64 (.i .i64 (.i .i64 (.i .i64 (.i .i64 (.i .i64 (.i .i64 (.i .i64 (.i .i64 (.i .i64 .nil)))))))))))
theorem zy4 {rows : List (List U)} (h : ∀ r ∈ rows, ShU dsW r) : ∃ l : List Aw, rows = l.map eAw :=
 zoq fun r hr => by
  obtain ⟨a1, _, rfl, -, a2, _, rfl, -, a3, _, rfl, -, a4, _, rfl, -, a5, _, rfl, -, a6, _, rfl, -, a7, _, rfl, -, a8, _, rfl, -, a9, _, rfl, -, a10, _, rfl, -, a11, _, rfl, -, rfl⟩ := h r hr
  exact ⟨⟨a1, a2, a3, ⟨a4, a5, a6, a7, a8, a9, a10, a11⟩⟩, rfl⟩
section
variable {C : Kt} {s : Wk}
theorem zwq {F : List (List U) → FWk} : post [.L 16] zur F (.l 16 r) (W9 C s) = apW C s (F r) := by kernel_rfl
theorem zn9 {F : Int → Int → Int → FWk} {e' e2 : Int} : post [.I, .I, .I] zur F (.t [.i e, .i e', .i e2]) (W9 C s) = apW C s (F e e' e2) := by kernel_rfl
theorem zwu {F : Bool → FWk} {e : Bool} : post [.B] zur F (.u (.b e)) (W8 C s) = apW C s (F e) := by kernel_rfl
theorem zwt {F : Bool → FWk} {e : Bool} : post [.B] zur F (.u (.b e)) (W9 C s) = apW C s (F e) := by kernel_rfl
end
end
section
set_option maxRecDepth 1000000
variable {Q : V → Mem → Prop}
section
variable {C : Kt} {s : Wk} {n : Nat} {now id : Int} {o : Od}
theorem nT_nT (h : WT C s) : nT (nT s) = nT s := by
 show { s with T := zfm (zfm s.T) } = _
 rw [srtT_id (zb8 s.T) (DifT.perm (zap s.T).symm h.ids)]
theorem zqq (hC : KtC C) (hW : WV C (6 + 16 * n) (1 + 300 * (n : Int)) s) (hn : n ≤ 60) (hd : ∀ t ∈ s.T, now < t.1) (k1 : ∀ e, e ≠ 0 → zsq C (nT s) now o = (0, e, nT s) → Q (.t [.i 0, .i e]) (W8 C s))
 (k2 : ∀ x s', zsq C (nT s) now o = (x, 0, nT s') → WV C (6 + 16 * (n + 1)) (1 + 300 * ((n + 1 : Nat) : Int)) s' → (∀ t ∈ s'.T, now < t.1) → s'.Lg = s.Lg → Q (.t [.i x, .i 0]) (W9 C s')) :
 PRun Tryz.prog 29 (W8 C s) [.r 0 0, .i now, oV o] Q := by
 have B := hW.wb hC (by omega) (by omega)
 refine inst_S (o := o) hC.ok B.pinv B.plen B.binv B.blen B.dnum B.dlen B.dok B.sh (by have := B.jlen; omega) B.l4 B.lsz B.Tlen B.nx hW.wt.fresh (fun e he hE => k1 e he (zx0 hE he)) fun i y d b k x j p' b' s' hi hdn F hA => ?_
 obtain ⟨w1, w2, w3⟩ := hW.inst hC hi hdn F hA
 exact k2 _ s' (zxz hi hdn F hA) (w1.up (by omega) (by omega)) (fun t ht => (w3 t ht).elim (hd t) id) (by cases hA <;> rfl)
theorem delG_S (hC : KtC C) (hW : WV C (6 + 16 * n) (1 + 300 * (n : Int)) s) (hn : n ≤ 60) (k1 : ∀ e, e ≠ 0 → zuw C (nT s) id = (e, nT s) → Q (.i e) (W9 C s))
 (k2 : ∀ s', zuw C (nT s) id = (0, nT s') → WV C (6 + 16 * (n + 1)) (1 + 300 * ((n + 1 : Nat) : Int)) s' → Q (.i 0) (W9 C s')) :
 PRun Tryz.prog 31 (W8 C s) [.r 0 0, .i id] Q := by
 have B := hW.wb hC (by omega) (by omega)
 have kj : ∀ (i : Nat) (j : Jb), s.js[i]? = some j → 1 ≤ j.kind ∧ j.kind ≤ 4 := fun i j h => (zgr (B.jok i j h).1).2.1.1
 refine zo7 B (hW.hdr hC) (fun e he hE => k1 e he (zye kj he hE)) fun i j d b s' hg hid he hda hba hG => ?_
 have e : id = j.id := by have := (B.jok i j hg).2.1; omega
 have hD := zyd (kj i j hg) hg hid he hda hba hG
 obtain ⟨F, -⟩ := zqv B hda hG
 obtain ⟨b1, b2⟩ := zks hG hW.binv
 have w2 := (hW.given F b1 b2).deliver (i := i) (j := j) (by rw [F.js]; exact hg) he
 rw [e] at hD ⊢
 rw [F.js] at w2
 exact k2 _ (by rw [e]; exact hD) (w2.up (by omega) (by omega))
end
theorem zs3 (hl : r.length ≤ 1000) (K : Q (.l 4 r) []) : PRun Tryz.prog 99 [] [.l 4 r] Q := by
 refine PRun.uncV (S99 ?_)
 have ap : zak [] r := by unfold zak; simp; omega
 cases r with
 | nil => exact ⟨K, ap, K⟩
 | cons a r => exact ⟨ap, K⟩
theorem glist_S {L : List Mk} (K : ∀ X, Q (.l 4 (L.map rM)) [.o X]) : PRun Tryz.prog 33 [.o (Ob.of (zix L))] [.r 0 0] Q := by
 refine PRun.pack (args := []) rfl ?_
 rintro M (⟨rfl, rfl⟩ | ⟨hl, m, hm, rfl⟩)
 · exact S33e (zs3 (zz3 _) ⟨rfl, _, fun M => M = [.c [.nl 4, .nm]], .refl _, rfl, K _⟩)
 · exact S33 (zs3 (by rw [zzc]; omega) ⟨rfl, _, fun M => M = [.c [.w 1, .m 2], .x, .p (.a 2) 1 false m], .refl _, rfl, K _⟩)
theorem post_L4A {F : List (List U) → Ob → Prop} {X : Ob} : post [.L 4] [.A] F (.l 4 r) [.o X] = F r X := rfl
def o1 : Od := ⟨1, 1, 0, 1, 1, 1, 2, 0⟩
def o3 : Od := ⟨1, 1, 0, 1, 3, 1, 2, 0⟩
noncomputable def aw1 : Wk := (zsq (ktW 0) (wk0 0) 5 o1).2.2
noncomputable def aw2 : Wk := (zsq (ktW 0) aw1 6 o3).2.2
noncomputable def aw3 : Wk := latG 256 aw2 106
noncomputable def aw4 : Wk := (zuw (ktW 0) aw3 1).2
noncomputable def aw5 : Wk := (zuw (ktW 0) aw4 2).2
theorem aw_1 : zsq (ktW 0) (wk0 0) 5 o1 = (1, 0, aw1) := by kernel_rfl
theorem aw_1b : zsq (ktW 0) aw1 5 o1 = (0, 12, aw1) := by kernel_rfl
theorem aw_2 : zsq (ktW 0) aw1 6 o3 = (2, 0, aw2) := by kernel_rfl
theorem aw_3 : (aw2.js[0]?.map fun j => (j.fin, j.fee)) = some (25, 2) := by kernel_rfl
theorem aw_3b : (aw2.js.length, zcl aw2.Lg, aw1.T.all (fun t => decide (6 < t.1)), aw2.T.all (fun t => decide (6 < t.1))) = (2, 0, true, true) := by kernel_rfl
theorem aw_3c : ztc (ktW 0) aw2 6 0 0 100 ⟨0, 0, 0, 0, 0, 0, 0, 0⟩ = ((106, 0, 0), aw3) := by kernel_rfl
theorem aw_4 : zuw (ktW 0) aw3 1 = (0, aw4) := by kernel_rfl
theorem aw_5 : zuw (ktW 0) aw4 2 = (0, aw5) := by kernel_rfl
theorem aw_6 : (zan ⟨1, 0, 1, 3⟩ aw4.b, aw5.Lg.length) = (20, 2) := by kernel_rfl
theorem aw8_run : PRun Tryz.prog 8 [] [] fun x m => x = .u (.b true) ∧ m = [] := by
 have hC := ktW_C 0
 have go : ∀ {s t : Wk}, nT s = t → ∀ {n : Nat}, WV (ktW 0) (6 + 16 * n) (1 + 300 * (n : Int)) s → W9 (ktW 0) s = W9 (ktW 0) t ∧ nT t = t ∧ WV (ktW 0) (6 + 16 * n) (1 + 300 * (n : Int)) t := fun {s t} h {n} hW => by
  subst h
  exact ⟨W9_nT.symm, nT_nT hW.wt, hW.nT⟩
 refine S8 ⟨zyt 0, ?_⟩
 refine zqq (s := wk0 0) (n := 0) (o := o1) hC (wk0_V 0) (by decide) (fun t ht => by simp [wk0] at ht) (fun e he h => ?_) fun x s1 h hW _ _ => ?_
 · exact absurd (congrArg (·.2.1) (h.symm.trans aw_1)) he
 obtain ⟨rfl, g⟩ := Prod.mk.inj (h.symm.trans aw_1)
 obtain ⟨e1, n1, W1⟩ := go (Prod.mk.inj g).2 hW
 rw [e1, zmd]
 have t1 := congrArg (·.2.2.1) aw_3b
 refine zqq (s := aw1) (n := 1) (o := o1) (now := 5) hC W1 (by decide) (fun t ht => by have := of_decide_eq_true (z0o.1 t1 t ht); omega) (fun e he h => ?_) fun x s2 h _ _ _ => ?_
 rotate_left
 · rw [n1] at h; exact absurd (show (0 : Int) = 12 from congrArg (·.2.1) (h.symm.trans aw_1b)) (by decide)
 rw [n1] at h
 obtain rfl : e = 12 := congrArg (·.2.1) (h.symm.trans aw_1b)
 rw [zr1]
 refine zqq (s := aw1) (n := 1) (o := o3) (now := 6) hC W1 (by decide) (fun t ht => of_decide_eq_true (z0o.1 t1 t ht)) (fun e he h => ?_) fun x s2 h hW _ _ => ?_
 · rw [n1] at h; exact absurd (congrArg (·.2.1) (h.symm.trans aw_2)) he
 rw [n1] at h
 obtain ⟨rfl, g⟩ := Prod.mk.inj (h.symm.trans aw_2)
 obtain ⟨e2, n2, W2⟩ := go (Prod.mk.inj g).2 hW
 rw [e2, zmd]
 have B2 := W2.wb hC (by omega) (by omega)
 have t2 : aw2.T.all (fun t => decide (6 < t.1)) = true := congrArg (·.2.2.2) aw_3b
 have hl2 : aw2.js.length = 2 := congrArg (·.1) aw_3b
 refine zqk (C := ktW 0) (s := aw2) B2.sh (by omega) (fun h => by omega) fun i j hg hid => ?_
 obtain rfl : i = 0 := by omega
 have hj := aw_3
 rw [hg] at hj
 obtain ⟨hj1, hj2⟩ := Prod.mk.inj (Option.some.inj hj)
 rw [zce]
 refine wdo_S (C := ktW 0) (s := aw2) (n := 2) (kind := 0) (id := 0) (an := 100) (o := ⟨0, 0, 0, 0, 0, 0, 0, 0⟩) hC W2 (by decide) (by decide) (by decide) (by have := congrArg (·.2.1) aw_3b; simp only at this; omega) (fun t ht => of_decide_eq_true (z0o.1 t2 t ht)) fun now' x e s3 _ _ _ hW _ _ _ _ _ hG => ?_
 rw [n2] at hG
 obtain ⟨g, h3⟩ := Prod.mk.inj (hG.symm.trans aw_3c)
 obtain ⟨ga, gb⟩ := Prod.mk.inj g
 obtain ⟨gb, gc⟩ := Prod.mk.inj gb
 subst ga gb gc
 obtain ⟨e3, n3, W3⟩ := go h3 hW
 rw [e3, zn9]
 rw [hj1, hj2]
 refine cEq (fun _ => ?_) fun h => absurd rfl h
 refine cEq (fun _ => ?_) fun h => absurd rfl h
 refine cEq (fun _ => ?_) fun h => absurd rfl h
 refine cEq (fun _ => ?_) fun h => absurd rfl h
 refine cEq (fun _ => ?_) fun h => absurd rfl h
 refine cEq (fun _ => ?_) fun h => absurd rfl h
 refine cEq (fun _ => ?_) fun h => absurd rfl h
 refine cEq (fun _ => ?_) fun h => absurd rfl h
 refine delG_S (s := aw3) (n := 3) hC W3 (by decide) (fun e he h => ?_) fun s4 h hW => ?_
 · rw [n3] at h; exact absurd (congrArg (·.1) (h.symm.trans aw_4)) he
 rw [n3] at h
 obtain ⟨e4, n4, W4⟩ := go (Prod.mk.inj (h.symm.trans aw_4)).2 hW
 rw [e4, zcq]
 refine cEq (fun _ => ?_) fun h => absurd rfl h
 refine qty_S (k := ⟨1, 0, 1, 3⟩) W4.binv.srt (by have := W4.blen; omega) ?_
 rw [zaz, show zan ⟨1, 0, 1, 3⟩ aw4.b = 20 from congrArg (·.1) aw_6]
 refine cEq (fun _ => ?_) fun h => absurd rfl h
 refine delG_S (s := aw4) (n := 4) hC W4 (by decide) (fun e he h => ?_) fun s5 h hW => ?_
 · rw [n4] at h; exact absurd (congrArg (·.1) (h.symm.trans aw_5)) he
 rw [n4] at h
 obtain ⟨e5, n5, W5⟩ := go (Prod.mk.inj (h.symm.trans aw_5)).2 hW
 rw [e5, zcq]
 refine cEq (fun _ => ?_) fun h => absurd rfl h
 refine glist_S fun X => ?_
 rw [post_L4A, zzc, show aw5.Lg.length = 2 from congrArg (·.2) aw_6]
 exact ⟨rfl, rfl⟩
end
section
set_option maxRecDepth 1000000
variable {Q : V → Mem → Prop}
theorem zlq (which : Int) (L : List Aw) : PRun Tryz.prog 4 [] [.i which, .l 11 (L.map eAw)] fun x m => x = .u (.b true) ∧ m = [] := by
 have hlen : ((L.map eAw).length : Int) = (L.length : Int) := by rw [zzc]
 have aw : PRun Tryz.prog 8 [] [] (post [.B] [] (fun b => ((fun (x : V) (m : Mem) => x = V.u (.b true) ∧ m = []) (.u (.b b)) [] : Prop))) := aw8_run.mono (by rintro _ _ ⟨rfl, rfl⟩; exact ⟨rfl, rfl⟩)
 refine S4 ⟨zyt which, ?_⟩
 rw [hlen]
 refine cIf (fun _ => aw) fun hL => S12 ?_
 refine ⟨by omega, by omega, ?_⟩
 refine ⟨by unfold zak; simp, by unfold zak; simp, by unfold zak; simp, by unfold zak; simp, by unfold zak; simp, by unfold zak; simp, ?_⟩
 show PRun _ _ _ _ _
 refine zry (l := p0) (n := 562) ?_
 rw [zmc]
 refine ⟨fun now x a1 a2 a3 a4 a5 a6 a7 a8 r1 r2 x8 r3 t X1 X2 r4 x9 X3 => ∃ (k : Nat) (s : Wk), x = (k : Int) ∧ (ktW which).ty = a1 ∧ (ktW which).bl.map eB = a2 ∧ (ktW which).pl = a3 ∧ (ktW which).bays.map eYb = a4 ∧ (ktW which).ch = a5 ∧ 200 = a6 ∧ 1 = a7 ∧ 500 = a8 ∧ s.js.map za2 = r1 ∧ s.p.map eT = r2 ∧ 562 = x8 ∧ s.b.map eT = r3 ∧ zfl s.b = t ∧ Ob.of (qS s.T 256 s.next) = X1 ∧ Ob.of (zix s.Lg) = X2 ∧ s.ds.map eD = r4 ∧ s.g = x9 ∧ Ob.of (zta s.l) = X3 ∧
  k ≤ L.length ∧ WV (ktW which) (6 + 16 * k) (1 + 300 * (k : Int)) s ∧ 0 ≤ now ∧ now ≤ 255 * (k : Int) ∧ zcl s.Lg ≤ now ∧ ∀ t ∈ s.T, now < t.1,
  fun _ x _ _ _ _ _ _ _ _ _ _ _ _ _ _ _ _ _ _ => (L.length - x).toNat, ⟨0, wk0 which, rfl, rfl, rfl, rfl, rfl, rfl, rfl, rfl, rfl, rfl, rfl, rfl, rfl, rfl, rfl, rfl, rfl, rfl, rfl, zz3 _, wk0_V which, zzw _, by decide, by show zcl [] ≤ 0; decide, fun t ht => by simp [wk0] at ht⟩, ?_⟩
 rintro now _ _ _ _ _ _ _ _ _ _ _ _ _ _ _ _ _ _ _ ⟨k, s, rfl, rfl, rfl, rfl, rfl, rfl, rfl, rfl, rfl, rfl, rfl, rfl, rfl, rfl, rfl, rfl, rfl, rfl, rfl, hk, hW, ht0, ht1, hl, hd⟩
 refine cIf (fun hlt => ?_) fun _ => aw
 have hlt : k < L.length := by omega
 have hg := zzb hlt
 generalize L[k] = a at hg
 have el : ∀ {F : List U → Prop}, elL (L.map eAw) (k : Int) F = F (eAw a) := fun {F} => zah (by omega) (by rw [zzs, zzg, hg]; rfl)
 have B := hW.wb (ktW_C which) (by omega) (by omega)
 refine zb3 (fun _ _ => ?_) fun h => by omega
 rw [zaz]
 refine zb3 (fun _ _ => ?_) fun h => by omega
 rw [zaz]
 refine zb3 (fun _ _ => ?_) fun h => by omega
 rw [zaz]
 refine zb3 (fun _ _ => ?_) fun h => by omega
 rw [zaz]
 refine jobs_S (C := ktW which) (s := s) B.sh (by have := B.jlen; omega) ?_
 rw [zwq]
 show elL (L.map eAw) (k : Int) _
 rw [el]
 simp only [eAw, ug0, ugs, zbo]
 refine wdo_S (C := ktW which) (s := s) (n := k) (o := a.o) (ktW_C which) hW (by omega) ht0 ht1 hl hd fun now' x e s' hn hn' _ hW' hl' hd' hty hjs _ _ => ?_
 rw [zn9]
 have B' := hW'.wb (ktW_C which) (by omega) (by omega)
 have ek : zy5 .i64 ((k : Int) + 1) = ((k + 1 : Nat) : Int) := by rw [w64 (by omega) (by omega)]; omega
 refine jobs_S (C := ktW which) (s := s') B'.sh (by have := B'.jlen; omega) ?_
 rw [zwq]
 refine zry (l := s'.p) (n := 562) ?_
 rw [zmc]
 refine cNe (fun h => absurd rfl h) fun _ => ?_
 refine cNe (fun he => ?_) fun he => ?_
 · rw [hjs he]
   refine sameJ_S B.sh (by have := B.jlen; omega) ?_
   rw [zbk]
   refine zfn ?_
   show ((∀ _, _) : Prop)
   intro k1 hk1 k2 hk2
   have hty := hty (.inr he)
   have fin : k1 (s'.b.map eT) (zfl s'.b) := by
    refine hk1 _ _ ?_
    rw [← hjs he]
    refine zve (C := ktW which) (s := s') hW'.wt ?_
    rw [zwu]
    refine zfn ?_
    show PRun _ _ _ _ _
    refine zxi (C := ktW which) (s := s') rfl hW' ?_
    rw [zwt]
    refine zfn ?_
    rw [ek]
    exact ⟨⟨k + 1, s', by first | trivial | rfl, by first | trivial | rfl, by first | trivial | rfl, by first | trivial | rfl, by first | trivial | rfl, by first | trivial | rfl, by first | trivial | rfl, by first | trivial | rfl, by first | trivial | rfl, by first | trivial | rfl, by first | trivial | rfl, by first | trivial | rfl, by first | trivial | rfl, by first | trivial | rfl, by first | trivial | rfl, by first | trivial | rfl, by first | trivial | rfl, by first | trivial | rfl, by first | trivial | rfl, by omega, hW', by omega, hn', hl', hd'⟩, by first | omega | (dsimp only; omega)⟩
   have all : k2 true := by
    refine hk2 true (zb3 (fun _ _ => ?_) fun h => by omega)
    rw [zaz, hty]
    refine cNe (fun h => absurd rfl h) fun _ => zb3 (fun _ _ => ?_) fun h => by omega
    rw [zaz, hty]
    refine cNe (fun h => absurd rfl h) fun _ => zb3 (fun _ _ => ?_) fun h => by omega
    rw [zaz, hty]
    refine cNe (fun h => absurd rfl h) fun _ => zb3 (fun _ _ => ?_) fun h => by omega
    rw [zaz, hty]
    exact cNe (fun h => absurd rfl h) fun _ => fin
   rw [el]
   simp only [eAw, ug0, zbo]
   refine cNe (fun _ => all) fun _ => ?_
   rw [show (e != 0) = true by simpa using he]
   exact all
 · intro k1 hk1 k2 hk2
   have fin : k1 (s'.b.map eT) (zfl s'.b) := by
    refine hk1 _ _ (zve (C := ktW which) (s := s') hW'.wt ?_)
    rw [zwu]
    refine zfn ?_
    show PRun _ _ _ _ _
    refine zxi (C := ktW which) (s := s') rfl hW' ?_
    rw [zwt]
    refine zfn ?_
    rw [ek]
    exact ⟨⟨k + 1, s', by first | trivial | rfl, by first | trivial | rfl, by first | trivial | rfl, by first | trivial | rfl, by first | trivial | rfl, by first | trivial | rfl, by first | trivial | rfl, by first | trivial | rfl, by first | trivial | rfl, by first | trivial | rfl, by first | trivial | rfl, by first | trivial | rfl, by first | trivial | rfl, by first | trivial | rfl, by first | trivial | rfl, by first | trivial | rfl, by first | trivial | rfl, by first | trivial | rfl, by first | trivial | rfl, by omega, hW', by omega, hn', hl', hd'⟩, by first | omega | (dsimp only; omega)⟩
   rw [el]
   simp only [eAw, ug0, zbo]
   refine cNe (fun h5 => ?_) fun _ => ?_
   · have hty := hty (.inl h5)
     refine hk2 true (zb3 (fun _ _ => ?_) fun h => by omega)
     rw [zaz, hty]
     refine cNe (fun h => absurd rfl h) fun _ => zb3 (fun _ _ => ?_) fun h => by omega
     rw [zaz, hty]
     refine cNe (fun h => absurd rfl h) fun _ => zb3 (fun _ _ => ?_) fun h => by omega
     rw [zaz, hty]
     refine cNe (fun h => absurd rfl h) fun _ => zb3 (fun _ _ => ?_) fun h => by omega
     rw [zaz, hty]
     exact cNe (fun h => absurd rfl h) fun _ => fin
   · rw [he]
     exact hk2 false fin
theorem zk3 {x0 : U} {rows1 : List (List U)} (sh0 : ShU (.i .i64 .nil) [x0]) (hl1 : rows1.length ≤ maxLen) (hs1 : ∀ r ∈ rows1, ShU dsW r) : PRun Tryz.prog 4 [] [.u x0, .l 11 rows1] fun v _ => v = .u (.b true) := by
 obtain ⟨n, _, h, -, -⟩ := sh0
 cases h
 obtain ⟨L, rfl⟩ := zy4 hs1
 exact (zlq n L).mono fun _ _ h => h.1
end
section
open Go.ChangeShapes Go.WideShapes Go.ChangeAt Go.RowKit
set_option maxRecDepth 100000 in
theorem zhd (os : Os) (started : os.Started) (H : Type) (enc : TypeId × Value → H) :
 ReturnsInHanded {} Tryz.checked os 4 .any (Rows.worksKeepSpec.pre6 enc Tryz.prog Tryz.f4 Rows.worksKeepRow.domain false) (Rows.worksKeepSpec.post enc Tryz.prog Tryz.f4 false true false false) := by
 refine returnsInHanded_of_change (C := Tryz.checked) Tryz.own started (by kernel_rfl) Tryz.func4
  (ChangeSpec.witness6 (enc := enc) (C := Tryz.checked) false ⟨#[], #[.int .i64 0, .slice none 0 0], []⟩ 8 (by kernel_rfl) (by kernel_rfl) (by kernel_rfl) (by kernel_rfl)) ?_
 intro W base args ds gs before hval0 hW hcnd _
 have hval : ∀ (j : Nat) t v, Tryz.f4.params[j]? = some t → args[j]? = some v → Value.okWide Tryz.prog W .any base t v := hval0
 have hW' := hW
 obtain ⟨p, q, hA0, hV, rfl, hfz, hnd⟩ := hW
 have hA : DataW.TrodAll enc Tryz.prog W 0 (fun _ => true) true Tryz.f4.params.toList args.toList ds p := hA0
 rw [Tryz.params4] at hA hval
 obtain ⟨v0, v1, d0, d1, p0, p1, rfl, rfl, rfl, h0, h1⟩ := trodAll_two hA
 obtain ⟨rfl, rfl⟩ := trodVars_none hV
 obtain ⟨us0, hr0, sh0⟩ := zoe (ds := (.i .i64 .nil)) (by kernel_rfl) h0
 obtain ⟨x0, rfl⟩ : ∃ x, us0 = [x] := by obtain ⟨_, _, rfl, hh⟩ := sh0; obtain rfl : _ = [] := (by first | exact hh | exact hh.2); exact ⟨_, rfl⟩
 have hr0 : Rd (zph W.heap) v0 x0 := rd_int (hval 0 3 v0 rfl rfl) Tryz.underlying3 hr0
 obtain ⟨us1, hr1, sh1⟩ := zoe (ds := (.l 11 (.i .i64 (.i .i64 (.i .i64 (.i .i64 (.i .i64 (.i .i64 (.i .i64 (.i .i64 (.i .i64 (.i .i64 (.i .i64 .nil))))))))))) .nil)) (by kernel_rfl) h1
 obtain ⟨a1, n1, c1, rfl⟩ := Go.WideShapes.okWide_slice Tryz.underlying22 (hval 1 22 v1 rfl rfl)
 obtain ⟨rows1, _, rfl, hl1, hs1, rfl⟩ := sh1
 clear hA0 hval0
 refine ((zk3 sh0 hl1 hs1 (zph W.heap) [] [] [] W.heap _ (SAt.all W.heap) (.cons (.u hr0) (.cons (rp_slice hr1) (.nil)))).2 W rfl).mono ?_
 rintro e W' ⟨v, rfl, ⟨D', ρ', chs', x, m', le, M', hv, rfl⟩, hsm⟩
 obtain rfl : v = .bool true := by cases hv with | u h => cases h; rfl
 have hb := belowOf (St.kept le M'.st) hsm
 have hlt0 : ∀ x ∈ p0, x.block < W.heap.size := fun x hx => by simpa using hW'.lt x (by simp [hx])
 have hlt1 : ∀ x ∈ p1, x.block < W.heap.size := fun x hx => by simpa using hW'.lt x (by simp [hx])
 exact ⟨_, rfl, _, _, _, [], _, [], hW', trodAll_mk1 (shut_bool Tryz.underlying4 true), trodAll_mk2 (hb.trod Tryz.laidOut (by kernel_rfl) (of_decide_eq_true (by kernel_rfl)) h0 hlt0) (hb.trod Tryz.laidOut (by kernel_rfl) (of_decide_eq_true (by kernel_rfl)) h1 hlt1), rfl, hb.frame _, fun h => by cases h⟩
theorem zfj {a b : Bool} (h1 : a = true) (h2 : b = true) : (a && b) = true := by rw [h1, h2]; rfl
theorem znr : (Rows.worksKeepRow.wf (OpenSpec.ofChange Rows.worksKeepSpec)) = true := by kernel_rfl
theorem znq : (laidOutB Tryz.prog) = true := by kernel_rfl
theorem znp : (mapsRowed Tryz.prog) = true := by kernel_rfl
theorem zno : (Tryz.f4.params.all (Tryz.prog.readableRec ·)) = true := by kernel_rfl
theorem znn : (namedTie Tryz.prog Rows.worksKeepRow.named Rows.worksKeepSpec.vars) = true := by kernel_rfl
theorem znm : ((Rows.worksKeepRow.stops == [])) = true := by kernel_rfl
theorem znl : ((Tryz.prog.stops == [])) = true := by kernel_rfl
theorem znk : ((Rows.worksKeepRow.knobs == [])) = true := by kernel_rfl
theorem znj : ((Tryz.prog.stopKnobs == [])) = true := by kernel_rfl
theorem zni : ((Rows.worksKeepRow.inPlace == Tryz.prog.inPlace 4)) = true := by kernel_rfl
theorem zlp : ((Rows.worksKeepRow.unfollowed == Tryz.prog.unfollowed 4)) = true := by kernel_rfl
theorem zlo : ((Rows.worksKeepRow.recurses == Tryz.prog.recurses 4)) = true := by kernel_rfl
theorem zln : ((Rows.worksKeepRow.named == Tryz.prog.varsNamed 4)) = true := by kernel_rfl
theorem zlm : ((Rows.worksKeepRow.maps == (Tryz.f4.params.toList ++ Rows.worksKeepSpec.plain.varTypes Tryz.prog).any (Tryz.prog.mapsRec ·))) = true := by kernel_rfl
theorem zll : ((Rows.worksKeepRow.ifaces == (Tryz.f4.params.toList ++ Rows.worksKeepSpec.plain.varTypes Tryz.prog).any (Tryz.prog.ifacesRec ·))) = true := by kernel_rfl
theorem zlk : ((Rows.worksKeepRow.mapsOut == Tryz.prog.mapsAmong Tryz.f4.resultTypes.toList)) = true := by kernel_rfl
theorem zlj : ((Rows.worksKeepRow.loops == (Tryz.f4.params.toList ++ Rows.worksKeepSpec.plain.varTypes Tryz.prog).any (Tryz.prog.loopsFrom ·))) = true := by kernel_rfl
theorem zli : ((Rows.worksKeepRow.wideKeys == (Tryz.f4.params.toList ++ Rows.worksKeepSpec.plain.varTypes Tryz.prog ++ Tryz.f4.resultTypes.toList).any (Tryz.prog.wideKeysFrom ·))) = true := by kernel_rfl
theorem zlh : (Rows.worksKeepSpec.vars.all (Tryz.prog.varReadable ·)) = true := by kernel_rfl
theorem zlg : (Tryz.f4.resultTypes.all (fun t => Tryz.prog.readableRec t && decide (t < Tryz.prog.types.size))) = true := by kernel_rfl
theorem zlf : ((Rows.worksKeepRow.ifacesOut == Tryz.f4.resultTypes.toList.any (Tryz.prog.ifacesRec ·))) = true := by kernel_rfl
theorem zle : ((Rows.worksKeepRow.loopsOut == Tryz.f4.resultTypes.toList.any (Tryz.prog.loopsFrom ·))) = true := by kernel_rfl
theorem zld : ((Rows.worksKeepRow.plainKeys == Tryz.prog.plainKeys)) = true := by kernel_rfl
theorem zlc : (Rows.worksKeepRow.shortTexts.isNone) = true := by kernel_rfl
theorem zlb : (Tryz.prog.stopsHeard) = true := by kernel_rfl
theorem zla : (Tryz.prog.mayEnter) = true := by kernel_rfl
theorem zk9 : ((Rows.worksKeepRow.lifted == Tryz.prog.liftsFinal)) = true := by kernel_rfl
theorem zk8 : ((Tryz.prog.make == some Rows.worksKeepRow.make)) = true := by kernel_rfl
theorem zk7 : ((Rows.worksKeepRow.kinds == (if Rows.worksKeepRow.domain.isEmpty then [] else Tryz.f4.params.toList.map fun t => match Tryz.prog.underlying t with | some (.int k) => some k | _ => none))) = true := by kernel_rfl
theorem zk6 : ((Rows.worksKeepRow.pinned == Rows.worksKeepRow.pinnedBy)) = true := by kernel_rfl
theorem zk5 : ((Rows.worksKeepRow.veiled == (Tryz.f4.params.toList ++ Rows.worksKeepSpec.plain.varTypes Tryz.prog ++ Tryz.f4.resultTypes.toList).any (Tryz.prog.veiledRec ·))) = true := by kernel_rfl
theorem zk4 : (Rows.worksKeepRow.veiledFits Tryz.prog Tryz.f4.params.toList (Tryz.f4.params.toList ++ Rows.worksKeepSpec.plain.varTypes Tryz.prog ++ Tryz.f4.resultTypes.toList)) = true := by kernel_rfl
set_option maxRecDepth 100000 in
theorem zhe : joinedFacts Tryz.prog 4 Tryz.f4 Rows.worksKeepSpec Rows.worksKeepRow = true := (zfj (zfj (zfj (zfj (zfj (zfj (zfj (zfj (zfj (zfj (zfj (zfj (zfj (zfj (zfj (zfj (zfj (zfj (zfj (zfj (zfj (zfj (zfj (zfj (zfj (zfj (zfj (zfj (zfj (zfj (zfj znr znq) znp) zno) znn) znm) znl) znk) znj) zni) zlp) zlo) zln) zlm) zll) zlk) zlj) zli) zlh) zlg) zlf) zle) zld) zlc) zlb) zla) zk9) zk8) zk7) zk6) zk5) zk4)
theorem worksKeep_holds : Rows.WorksKeepSaid :=
 OpenClaim.holds_of_wide 4 Tryz.f4 rfl rfl rfl rfl rfl rfl rfl ⟨rfl, rfl, rfl, rfl, rfl⟩ rfl rfl rfl rfl rfl (by kernel_rfl) Tryz.func4 zhe
  (of_decide_eq_true (by kernel_rfl)) (by unfold Func.isWrapper; first | (rw [if_pos (by decide +kernel)]; kernel_rfl) | (rw [if_neg (by decide +kernel)]; exact ⟨rfl, rfl⟩))
  (fun os started H enc _ => zhd os started H enc)
end
end Go.Proofs.YtacglpinmpncaaaGreat
