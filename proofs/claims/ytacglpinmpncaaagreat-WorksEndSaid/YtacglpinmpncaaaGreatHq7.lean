/- The row of WorksEnd: whatever it is given it returns true, and what it was given reads as it did. -/
import Derived.Test.YtacglpinmpncaaaGreatHq6
import Derived.Test.YtacglpinmpncaaaGreatProg
set_option linter.unusedVariables false
namespace Go.Proofs.YtacglpinmpncaaaGreat
variable {b : Bl} {d : Dr} {now : Int} {j j2 : Jb} {P : Jb → Prop} {r : List (List U)} {js : List Jb} {T' : List Tm} {i k : Nat} {o : Od} {x : Sd} {t : Tm}
open _root_.BitVec renaming toNat_and → z3r
open _root_.Bool renaming and_eq_false_iff → z1v, and_eq_true → zyy, not_true → z0c
open _root_.Int renaming le_refl → zzk, toNat_natCast → zzm
open _root_.Go.IntKind renaming wrap → zyu
open _root_.List renaming all_eq_true → z0d, append_nil → zzw, eq_nil_of_length_eq_zero → z0p, filter_append → z2i, filter_cons_of_neg → z06, filter_cons_of_pos → z1w, filter_eq_self → z16, find?_eq_none → z2d, getElem?_eq_getElem → zy0, getElem?_eq_some_iff → zyz, getElem?_map → zy5, getElem?_set_ne → zzp, getElem?_set_self → zz3, getElem?_take → z0l, length → zyv, length_append → zzl, length_cons → zzg, length_filter_le → z0b, length_map → zy2, length_nil → z0z, length_set → zzz, length_take → zz1, map → zzf, map_append → zzr, map_cons → zzj, map_map → zz9, mem_append → zy6, mem_cons → zy3, mem_cons_of_mem → zzo, mem_cons_self → zzq, mem_filter → z0f, mem_iff_getElem? → zz4, mem_map → zzu, mem_of_getElem? → zy4, mem_or_eq_of_mem_set → z13, mem_singleton → z0s, nodup_append → z01, nodup_cons → z0q, not_mem_nil → z0w, pairwise_cons → zz5, pairwise_iff_getElem → z1t, pairwise_map → z17, perm_append_comm → z1q, perm_middle → z1l, take_append_drop → z0h
open _root_.Nat renaming le_refl → zy9, le_succ → z0i, lt_or_ge → z0o, zero_le → zzv
section
set_option maxRecDepth 100000
def zcl {α : Type} (P : Jb → Bool) (f : Jb → α) (js : List Jb) : List α := (js.filter P).map f
section
variable {α : Type} {P : Jb → Bool} {f : Jb → α}
theorem zdn (l m : List Jb) : zcl P f (l ++ m) = zcl P f l ++ zcl P f m := by unfold zcl; rw [z2i, zzr]
theorem zri {d : Jb} (l : List Jb) (h : P d = true) : zcl P f (d :: l) = f d :: zcl P f l := by unfold zcl; rw [z1w h, zzj]
theorem zvk {d : Jb} (l : List Jb) (h : P d = false) : zcl P f (d :: l) = zcl P f l := by unfold zcl; rw [z06 (by simp [h])]
theorem zc1 (h : js[i]? = some j) : ∃ rest, (P j = true → (zcl P f js).Perm (f j :: rest)) ∧ (P j = false → (zcl P f js).Perm rest) ∧ ∀ e, (P e = true → (zcl P f (js.set i e)).Perm (f e :: rest)) ∧ (P e = false → (zcl P f (js.set i e)).Perm rest) := by
 obtain ⟨a, b, rfl, -, hs⟩ := zvi h
 refine ⟨zcl P f a ++ zcl P f b, fun hp => ?_, fun hp => ?_, fun e => ⟨fun hp => ?_, fun hp => ?_⟩⟩
 · rw [zdn, zri _ hp]; exact z1l
 · rw [zdn, zvk _ hp]
 · rw [hs, zdn, zri _ hp]; exact z1l
 · rw [hs, zdn, zvk _ hp]
theorem selJ_mem {x : α} : x ∈ zcl P f js ↔ ∃ j ∈ js, P j = true ∧ f j = x := by
 unfold zcl
 simp only [zzu, z0f]
 constructor
 · rintro ⟨d, ⟨h1, h2⟩, h3⟩; exact ⟨d, h1, h2, h3⟩
 · rintro ⟨d, h1, h2, h3⟩; exact ⟨d, ⟨h1, h2⟩, h3⟩
theorem zhg (js : List Jb) : (zcl P f js).length ≤ js.length := by unfold zcl; rw [zy2]; exact z0b _ _
theorem zb6 {e : Jb} (h : js[i]? = some j) (h1 : P j = false) (h2 : P e = false) : (zcl P f (js.set i e)).Perm (zcl P f js) := by
 obtain ⟨r, -, r2, r3⟩ := zc1 (P := P) (f := f) h
 exact ((r3 e).2 h2).trans (r2 h1).symm
end
abbrev Pr (k : Nat) (j : Jb) : Bool := j.st == 2 && jAt j == (k : Int)
abbrev Pw (k : Nat) (j : Jb) : Bool := j.st == 1 && jAt j == (k : Int)
abbrev Pq (j : Jb) : Bool := j.st == 2
abbrev fq (j : Jb) : Int × Int := (j.fin, 2 * j.id)
structure WT (C : Kt) (s : Wk) : Prop where
 l4 : s.l.length = 4
 slot : ∀ (k : Nat) (x : Sd), s.l[k]? = some x → ∃ y, C.bays[k / 2]? = some y ∧ x.n = if k % 2 = 0 then y.make else y.lab
 room : ∀ x ∈ s.l, (x.run.length : Int) ≤ x.n
 run : ∀ (k : Nat) (x : Sd), s.l[k]? = some x → x.run.Perm (zcl (Pr k) (·.id) s.js)
 wait : ∀ (k : Nat) (x : Sd), s.l[k]? = some x → x.wait.Perm (zcl (Pw k) (·.id) s.js)
 tim : (s.T.map tp).Perm (zcl Pq fq s.js)
 ids : s.T.Pairwise fun a b => a.2.1 ≠ b.2.1
 lt : ∀ t ∈ s.T, t.2.1 < s.next
 jok : ∀ (i : Nat) (j : Jb), s.js[i]? = some j → jOk j = true ∧ j.id = (i : Int) + 1 ∧ 1 ≤ j.bay ∧ j.bay ≤ 2
 jlen : s.js.length ≤ 64
theorem jAt_bd (h : 1 ≤ j.bay ∧ j.bay ≤ 2) : 0 ≤ jAt j ∧ jAt j < 4 := by
 unfold jAt
 split <;> omega
section
variable {C : Kt} {s : Wk} {now : Int}
theorem WT.same (h : WT C s) (hg : s.js[i]? = some j) (h2 : j2 ∈ s.js) (e : j2.id = j.id) : j2 = j := by
 obtain ⟨k, hk⟩ := zz4.1 h2
 have a := (h.jok i j hg).2.1
 have b := (h.jok k j2 hk).2.1
 have : i = k := by omega
 subst this
 rw [hg] at hk
 exact (Option.some.inj hk).symm
theorem WT.Tlen (h : WT C s) : s.T.length ≤ 64 := by
 have h1 := h.tim.length_eq
 rw [zy2] at h1
 have := zhg (P := Pq) (f := fq) s.js
 have := h.jlen
 omega
theorem WT.rlen (h : WT C s) (hx : x ∈ s.l) : x.run.length ≤ 64 ∧ x.wait.length ≤ 64 := by
 obtain ⟨k, hk⟩ := zz4.1 hx
 have h1 := (h.run k x hk).length_eq
 have h2 := (h.wait k x hk).length_eq
 have := zhg (P := Pr k) (f := (·.id)) s.js
 have := zhg (P := Pw k) (f := (·.id)) s.js
 have := h.jlen
 omega
theorem nd_ids {P : Jb → Bool} : ∀ {js : List Jb}, (∀ (i k : Nat) (a b : Jb), js[i]? = some a → js[k]? = some b → i ≠ k → a.id ≠ b.id) → (zcl P (·.id) js).Nodup := by
 intro js h
 unfold zcl
 have : js.Pairwise fun a b => a.id ≠ b.id := by
  rw [z1t]
  intro i k hi hk hik
  exact h i k _ _ (zy0 hi) (zy0 hk) (by omega)
 exact z17.2 (this.filter _)
theorem WT.nd (h : WT C s) (P : Jb → Bool) : (zcl P (·.id) s.js).Nodup := nd_ids fun i k a b ha hb hne => by
 have h1 := (h.jok i a ha).2.1
 have h2 := (h.jok k b hb).2.1
 omega
theorem WT.runs (h : WT C s) (hx : s.l[k]? = some x) (hg : s.js[i]? = some j) : j.id ∈ x.run ↔ j.st = 2 ∧ jAt j = (k : Int) := by
 rw [(h.run k x hx).mem_iff, selJ_mem]
 constructor
 · rintro ⟨j2, h1, h2, h3⟩
   have := h.same hg h1 h3
   subst this
   simpa using h2
 · intro h1
   exact ⟨j, zy4 hg, by simpa using h1, rfl⟩
theorem WT.waits (h : WT C s) (hx : s.l[k]? = some x) (hg : s.js[i]? = some j) : j.id ∈ x.wait ↔ j.st = 1 ∧ jAt j = (k : Int) := by
 rw [(h.wait k x hx).mem_iff, selJ_mem]
 constructor
 · rintro ⟨j2, h1, h2, h3⟩
   have := h.same hg h1 h3
   subst this
   simpa using h2
 · intro h1
   exact ⟨j, zy4 hg, by simpa using h1, rfl⟩
theorem WT.has (h : WT C s) (hg : s.js[i]? = some j) (h2 : j.st = 2) : ∃ t ∈ s.T, tp t = fq j := by
 have : fq j ∈ s.T.map tp := h.tim.mem_iff.2 (selJ_mem.2 ⟨j, zy4 hg, by simpa using h2, rfl⟩)
 obtain ⟨t, h1, h2⟩ := zzu.1 this
 exact ⟨t, h1, h2⟩
theorem WT.timer (h : WT C s) (ht : t ∈ s.T) : ∃ (i : Nat) (j : Jb), s.js[i]? = some j ∧ j.st = 2 ∧ tp t = fq j := by
 obtain ⟨j, h1, h2, h3⟩ := selJ_mem.1 (h.tim.mem_iff.1 (zzu.2 ⟨t, ht, rfl⟩))
 obtain ⟨i, hi⟩ := zz4.1 h1
 exact ⟨i, j, hi, by simpa using h2, h3.symm⟩
theorem WT.timS (h : WT C s) (hg : s.js[i]? = some j) (ht : t ∈ s.T) (hw : t.2.2 = 2 * j.id) : tp t = fq j ∧ j.st = 2 := by
 obtain ⟨k, j2, h1, h2, h3⟩ := h.timer ht
 have e : j2.id = j.id := by
  have := congrArg Prod.snd h3
  simp only at this
  omega
 have := h.same hg (zy4 h1) e
 subst this
 exact ⟨h3, h2⟩
theorem WT.timD (h : WT C s) (hg : s.js[i]? = some j) (h2 : j2.st ≠ 2) (hT : TimF s.T (2 * j.id) T') :
 (T'.map tp).Perm (zcl Pq fq (s.js.set i j2)) ∧ (∀ t ∈ T', t ∈ s.T) ∧ T'.Pairwise fun a b => a.2.1 ≠ b.2.1 := by
 obtain ⟨r, r1, r2, r3⟩ := zc1 (P := Pq) (f := fq) hg
 have r4 := (r3 j2).2 (by simpa using h2)
 by_cases hs : j.st = 2
 · have r1 := r1 (by simpa using hs)
   have hex : ∃ t, (t :: T').Perm s.T ∧ tp t = fq j := by
    rcases hT with ⟨t, h1, h3⟩ | ⟨h1, -⟩
    · exact ⟨t, h1, (h.timS hg (h1.mem_iff.1 zzq) h3).1⟩
    · obtain ⟨t, h3, h4⟩ := h.has hg hs
      exact absurd (congrArg Prod.snd h4) (h1 t h3)
   obtain ⟨t, h1, h3⟩ := hex
   have e1 : ((t :: T').map tp).Perm (s.T.map tp) := h1.map tp
   rw [zzj, h3] at e1
   exact ⟨((e1.trans (h.tim.trans r1)).cons_inv).trans r4.symm, fun x hx => h1.mem_iff.1 (zzo _ hx), zrx h.ids h1⟩
 · have e : T' = s.T := by
    rcases hT with ⟨t, h1, h3⟩ | ⟨-, h1⟩
    · exact absurd (h.timS hg (h1.mem_iff.1 zzq) h3).2 hs
    · exact h1
   subst e
   exact ⟨(h.tim.trans (r2 (by simpa using hs))).trans r4.symm, fun x hx => hx, h.ids⟩
theorem flt_perm {l : List Int} {x : Int} {r : List Int} (h : l.Perm (x :: r)) (hn : x ∉ r) : (l.filter (· != x)).Perm r := by
 have h1 := h.filter (· != x)
 rw [z06 (by simp)] at h1
 refine h1.trans ?_
 rw [z16.2 fun y hy => by simp only [bne_iff_ne, ne_eq]; exact fun e => hn (e ▸ hy)]
theorem flt_id {l : List Int} {x : Int} (hn : x ∉ l) : l.filter (· != x) = l := z16.2 fun y hy => by simp only [bne_iff_ne, ne_eq]; exact fun e => hn (e ▸ hy)
abbrev zqr (x : Sd) (id : Int) : Sd := ⟨x.n, x.run.filter (· != id), x.wait.filter (· != id)⟩
theorem zl1 (h : WT C s) (hg : s.js[i]? = some j) (hok : jOk j2 = true) (hid : j2.id = j.id) (hb : j2.bay = j.bay) : ∀ (k : Nat) (e : Jb), (s.js.set i j2)[k]? = some e → jOk e = true ∧ e.id = (k : Int) + 1 ∧ 1 ≤ e.bay ∧ e.bay ≤ 2 := fun k e he => by
 have hlt := (zyz.1 hg).1
 rw [List.getElem?_set] at he
 split at he
 · rename_i e1
   subst e1
   cases he
   have := h.jok i j hg
   exact ⟨hok, by rw [hid]; exact this.2.1, by rw [hb]; exact this.2.2⟩
 · exact h.jok k e he
theorem WT.drop (h : WT C s) (hg : s.js[i]? = some j) (hok : jOk j2 = true) (hid : j2.id = j.id) (hb : j2.bay = j.bay) (hst : j2.st ≠ 1 ∧ j2.st ≠ 2) (hT : TimF s.T (2 * j.id) T') (hx : s.l[k]? = some x)
 (hin : j.id ∈ x.run ∨ j.id ∈ x.wait) : WT C { s with T := T', l := s.l.set k (zqr x j.id), js := s.js.set i j2 } := by
 obtain ⟨t1, t2, t3⟩ := h.timD hg hst.2 hT
 have hkl := (zyz.1 hx).1
 have hat : jAt j = (k : Int) := by
  rcases hin with hin | hin
  · exact ((h.runs hx hg).1 hin).2
  · exact ((h.waits hx hg).1 hin).2
 have side : ∀ (P : Jb → Bool) (L : List Int), P j2 = false → L.Perm (zcl P (·.id) s.js) → (L.filter (· != j.id)).Perm (zcl P (·.id) (s.js.set i j2)) := fun P L hp hL => by
  obtain ⟨r, r1, r2, r3⟩ := zc1 (P := P) (f := (·.id)) hg
  have r4 := (r3 j2).2 hp
  have hnd := h.nd P
  cases hpj : P j with
  | true =>
    have r1 := r1 hpj
    have hn : j.id ∉ r := (z0q.1 (r1.nodup_iff.1 hnd)).1
    exact (flt_perm (hL.trans r1) hn).trans r4.symm
  | false =>
    have r2 := r2 hpj
    have hn : j.id ∉ L := fun hm => by
     obtain ⟨a, a1, a2, a3⟩ := selJ_mem.1 (hL.mem_iff.1 hm)
     have := h.same hg a1 a3
     subst this
     rw [hpj] at a2; cases a2
    rw [flt_id hn]
    exact (hL.trans r2).trans r4.symm
 have other : ∀ (P : Jb → Bool) (L : List Int), P j = false → P j2 = false → L.Perm (zcl P (·.id) s.js) → L.Perm (zcl P (·.id) (s.js.set i j2)) := fun P L h1 h2 hL => hL.trans (zb6 hg h1 h2).symm
 refine { l4 := by simp only [zzz]; exact h.l4, slot := fun m z hz => ?_, room := fun z hz => ?_, run := fun m z hz => ?_, wait := fun m z hz => ?_, tim := t1, ids := t3, lt := fun t ht => h.lt t (t2 t ht), jok := zl1 h hg hok hid hb, jlen := by simp only [zzz]; exact h.jlen }
 · rcases zbp hx hz with ⟨rfl, rfl⟩ | ⟨-, hz⟩
   · exact h.slot _ x hx
   · exact h.slot m z hz
 · rcases zed hx hz with rfl | hz
   · have h1 := h.room x (zy4 hx)
     have h2 := z0b (· != j.id) x.run
     show ((x.run.filter (· != j.id)).length : Int) ≤ x.n
     omega
   · exact h.room z hz
 · rcases zbp hx hz with ⟨rfl, rfl⟩ | ⟨hne, hz⟩
   · exact side (Pr _) x.run (by simp [hst.2]) (h.run _ x hx)
   · exact other (Pr m) z.run (by simp only [z1v, beq_eq_false_iff_ne]; exact .inr (by omega)) (by simp [hst.2]) (h.run m z hz)
 · rcases zbp hx hz with ⟨rfl, rfl⟩ | ⟨hne, hz⟩
   · exact side (Pw _) x.wait (by simp [hst.1]) (h.wait _ x hx)
   · exact other (Pw m) z.wait (by simp only [z1v, beq_eq_false_iff_ne]; exact .inr (by omega)) (by simp [hst.1]) (h.wait m z hz)
theorem WT.out (h : WT C s) (hg : s.js[i]? = some j) (hok : jOk j2 = true) (hid : j2.id = j.id) (hb : j2.bay = j.bay) (hst : j2.st ≠ 1 ∧ j2.st ≠ 2) (hs : j.st ≠ 1 ∧ j.st ≠ 2) (hT : TimF s.T (2 * j.id) T') : WT C { s with T := T', js := s.js.set i j2 } := by
 obtain ⟨t1, t2, t3⟩ := h.timD hg hst.2 hT
 exact { l4 := h.l4, slot := h.slot, room := h.room, run := fun m z hz => (h.run m z hz).trans (zb6 hg (by simp [hs.2]) (by simp [hst.2])).symm, wait := fun m z hz => (h.wait m z hz).trans (zb6 hg (by simp [hs.1]) (by simp [hst.1])).symm, tim := t1, ids := t3, lt := fun t ht => h.lt t (t2 t ht), jok := zl1 h hg hok hid hb, jlen := by simp only [zzz]; exact h.jlen }
theorem zgp (h : jE 1 j now = 0) : jOk (jDo 1 j now) = true ∧ j.st = 1 := by
 obtain ⟨h1, h2, h3⟩ := jE_zero.1 h
 have hst : j.st = 1 := by simpa [zl2] using h3
 refine ⟨?_, hst⟩
 obtain ⟨-, -, h5, h6⟩ := zfy h1 (.inl hst)
 have h2' := inJ_iff.1 h2
 unfold jOk at h1 ⊢
 rw [zyy] at h1 ⊢
 refine ⟨h1.1, ?_⟩
 unfold jSt
 rw [if_neg (by show ¬ ((2 : Int) = 1 ∨ (2 : Int) = 3); omega), if_pos (by show (2 : Int) = 2; rfl)]
 show (inJ now 0 1099511627776 && (inJ j.left 1 j.time && now + j.left == zyu .i64 (now + j.left))) = true
 rw [h2, inJ_iff.2 h5, w64 (by omega) (by omega)]
 simp
theorem WT.start (h : WT C s) (hg : s.js[i]? = some j) (he : jE 1 j now = 0) {ws : List Int} (hx : s.l[k]? = some x) (hw : x.wait.Perm (j.id :: ws)) (hr : (x.run.length : Int) < x.n) {ws' : List Int} (hws : ws'.Perm ws) :
 WT C (runW { s with l := s.l.set k ⟨x.n, zi1 j.id x.run, ws'⟩ } i j now) := by
 obtain ⟨hok, hst⟩ := zgp he
 have hin : j.id ∈ x.wait := hw.mem_iff.2 zzq
 have hat := ((h.waits hx hg).1 hin).2
 have hat2 : jAt (jDo 1 j now) = (k : Int) := hat
 have hst2 : (jDo 1 j now).st = 2 := rfl
 obtain ⟨q, -, q2, q3⟩ := zc1 (P := Pq) (f := fq) hg
 have hins : ∀ l : List Int, (zi1 j.id l).Perm (j.id :: l) := fun l => by
  unfold zi1
  refine z1l.trans (.cons _ ?_)
  rw [z0h]
 refine { l4 := by simp only [zzz]; exact h.l4, slot := fun m z hz => ?_, room := fun z hz => ?_, run := fun m z hz => ?_, wait := fun m z hz => ?_, tim := ?_, ids := ?_, lt := fun t ht => ?_, jok := zl1 (s := s) h hg hok rfl rfl, jlen := by simp only [zzz]; exact h.jlen }
 · rcases zbp hx hz with ⟨rfl, rfl⟩ | ⟨-, hz⟩
   · exact h.slot _ x hx
   · exact h.slot m z hz
 · rcases zed hx hz with rfl | hz
   · show ((zi1 j.id x.run).length : Int) ≤ x.n
     rw [zl5]
     omega
   · exact h.room z hz
 · rcases zbp hx hz with ⟨rfl, rfl⟩ | ⟨hne, hz⟩
   · obtain ⟨r, -, r2, r3⟩ := zc1 (P := Pr m) (f := (·.id)) hg
     have r2 := r2 (by simp [hst])
     have r4 := (r3 (jDo 1 j now)).1 (by simp [hst2, hat2])
     exact ((hins x.run).trans (((h.run _ x hx).trans r2).cons _)).trans r4.symm
   · exact (h.run m z hz).trans (zb6 hg (by simp [hst]) (by simp only [z1v, beq_eq_false_iff_ne]; exact .inr (by omega))).symm
 · rcases zbp hx hz with ⟨rfl, rfl⟩ | ⟨hne, hz⟩
   · obtain ⟨r, r1, -, r3⟩ := zc1 (P := Pw m) (f := (·.id)) hg
     have r1 := r1 (by simp [hst, hat])
     have r4 := (r3 (jDo 1 j now)).2 (by simp [hst2])
     exact (hws.trans ((hw.symm.trans ((h.wait _ x hx).trans r1)).cons_inv)).trans r4.symm
   · exact (h.wait m z hz).trans (zb6 hg (by simp only [z1v, beq_eq_false_iff_ne]; exact .inr (by omega)) (by simp [hst2])).symm
 · have q2 := q2 (by simp [hst])
   have q4 := (q3 (jDo 1 j now)).1 (by simp [hst2])
   show ((now + j.left, s.next, 2 * j.id) :: s.T |>.map tp).Perm _
   rw [zzj]
   exact ((h.tim.trans q2).cons _).trans q4.symm
 · exact zz5.2 ⟨fun t ht => by have := h.lt t ht; simp only; omega, h.ids⟩
 · rcases zy3.1 ht with rfl | ht
   · show s.next < s.next + 1; omega
   · have := h.lt t ht
     show t.2.1 < s.next + 1
     omega
theorem WT.queue (h : WT C s) (hg : s.js[i]? = some j) (hok : jOk j2 = true) (hid : j2.id = j.id) (hb : j2.bay = j.bay) (hs : j.st ≠ 1 ∧ j.st ≠ 2) (h1 : j2.st = 1) (hx : s.l[k]? = some x) (hat : jAt j2 = (k : Int)) :
 WT C { s with l := s.l.set k { x with wait := x.wait ++ [j2.id] }, js := s.js.set i j2 } := by
 have hT : TimF s.T (2 * j.id) s.T := .inr ⟨fun t ht e => hs.2 (h.timS hg ht e).2, rfl⟩
 obtain ⟨t1, t2, t3⟩ := h.timD hg (j2 := j2) (by omega) hT
 refine { l4 := by simp only [zzz]; exact h.l4, slot := fun m z hz => ?_, room := fun z hz => ?_, run := fun m z hz => ?_, wait := fun m z hz => ?_, tim := t1, ids := t3, lt := h.lt, jok := zl1 h hg hok hid hb, jlen := by simp only [zzz]; exact h.jlen }
 · rcases zbp hx hz with ⟨rfl, rfl⟩ | ⟨-, hz⟩
   · exact h.slot _ x hx
   · exact h.slot m z hz
 · rcases zed hx hz with rfl | hz
   · exact h.room x (zy4 hx)
   · exact h.room z hz
 · rcases zbp hx hz with ⟨rfl, rfl⟩ | ⟨hne, hz⟩
   · exact (h.run _ x hx).trans (zb6 hg (by simp [hs.2]) (by simp [h1])).symm
   · exact (h.run m z hz).trans (zb6 hg (by simp [hs.2]) (by simp [h1])).symm
 · rcases zbp hx hz with ⟨rfl, rfl⟩ | ⟨hne, hz⟩
   · obtain ⟨r, -, r2, r3⟩ := zc1 (P := Pw m) (f := (·.id)) hg
     have r2 := r2 (by simp [hs.1])
     have r4 := (r3 j2).1 (by simp [h1, hat])
     refine List.Perm.trans ?_ r4.symm
     exact (z1q (l₁ := x.wait) (l₂ := [j2.id])).trans (((h.wait _ x hx).trans r2).cons _)
   · exact (h.wait m z hz).trans (zb6 hg (by simp [hs.1]) (by simp only [z1v, beq_eq_false_iff_ne]; exact .inr (by omega))).symm
theorem WT.more (h : WT C s) (hok : jOk j = true) (hid : j.id = (s.js.length : Int) + 1) (hb : 1 ≤ j.bay ∧ j.bay ≤ 2) (h1 : j.st = 1) (hl : s.js.length < 64) (hx : s.l[k]? = some x) (hat : jAt j = (k : Int)) :
 WT C { s with l := s.l.set k { x with wait := x.wait ++ [j.id] }, js := s.js ++ [j] } := by
 have no : ∀ {α : Type} (P : Jb → Bool) (f : Jb → α), P j = false → zcl P f (s.js ++ [j]) = zcl P f s.js := fun P f hp => by
  rw [zdn, zvk _ hp]
  exact zzw _
 refine { l4 := by simp only [zzz]; exact h.l4, slot := fun m z hz => ?_, room := fun z hz => ?_, run := fun m z hz => ?_, wait := fun m z hz => ?_, tim := ?_, ids := h.ids, lt := h.lt, jok := fun m e he => ?_, jlen := by simp only [zzl, zzg, z0z]; omega }
 · rcases zbp hx hz with ⟨rfl, rfl⟩ | ⟨-, hz⟩
   · exact h.slot _ x hx
   · exact h.slot m z hz
 · rcases zed hx hz with rfl | hz
   · exact h.room x (zy4 hx)
   · exact h.room z hz
 · have e := no (Pr m) (·.id) (by simp [h1])
   show z.run.Perm (zcl (Pr m) (·.id) (s.js ++ [j]))
   rw [e]
   rcases zbp hx hz with ⟨rfl, rfl⟩ | ⟨hne, hz⟩
   · exact h.run _ x hx
   · exact h.run m z hz
 · rcases zbp hx hz with ⟨rfl, rfl⟩ | ⟨hne, hz⟩
   · show (x.wait ++ [j.id]).Perm (zcl (Pw m) (·.id) (s.js ++ [j]))
     rw [zdn, zri _ (show Pw m j = true by simp [h1, hat])]
     exact (h.wait _ x hx).append_right _
   · have e := no (Pw m) (·.id) (by simp only [z1v, beq_eq_false_iff_ne]; exact .inr (by omega))
     show z.wait.Perm (zcl (Pw m) (·.id) (s.js ++ [j]))
     rw [e]
     exact h.wait m z hz
 · have e := no Pq fq (by simp [h1])
   show (s.T.map tp).Perm (zcl Pq fq (s.js ++ [j]))
   rw [e]
   exact h.tim
 · have he : (s.js ++ [j])[m]? = some e := he
   rw [List.getElem?_append] at he
   split at he
   · exact h.jok m e he
   · rename_i hm
     have : m = s.js.length := by
      have := (zyz.1 he).1
      simp at this
      omega
     subst this
     simp at he
     subst he
     exact ⟨hok, hid, hb⟩
end
end
section
set_option maxRecDepth 100000
section
variable {C : Kt} {s s' : Wk} {now : Int}
theorem WT.congr (h : WT C s) (e1 : s'.l = s.l) (e2 : s'.T = s.T) (e3 : s'.next = s.next) (e4 : s'.js = s.js) : WT C s' where
 l4 := by rw [e1]; exact h.l4
 slot := by rw [e1]; exact h.slot
 room := by rw [e1]; exact h.room
 run := by rw [e1, e4]; exact h.run
 wait := by rw [e1, e4]; exact h.wait
 tim := by rw [e2, e4]; exact h.tim
 ids := by rw [e2]; exact h.ids
 lt := by rw [e2, e3]; exact h.lt
 jok := by rw [e4]; exact h.jok
 jlen := by rw [e4]; exact h.jlen
theorem WT.sideOf (h : WT C s) (hg : s.js[i]? = some j) : ∃ (k : Nat) (x : Sd), s.l[k]? = some x ∧ jAt j = (k : Int) := by
 have hb := jAt_bd (h.jok i j hg).2.2
 have hk : (jAt j).toNat < s.l.length := by rw [h.l4]; omega
 exact ⟨(jAt j).toNat, _, zy0 hk, by omega⟩
theorem ziv (x : Sd) (id : Int) : (∃ w ws, id ∈ x.run ∧ x.wait.filter (· != id) = w :: ws ∧ lvS x id = (⟨x.n, zi1 w (x.run.filter (· != id)), ws⟩, w)) ∨ lvS x id = (zqr x id, 0) := by
 unfold lvS
 cases hc : x.run.contains id with
 | false => exact .inr rfl
 | true =>
   cases hw : x.wait.filter (· != id) with
   | nil =>
     refine .inr ?_
     unfold zqr
     rw [hw]
   | cons w ws => exact .inl ⟨w, ws, by simpa using hc, rfl, rfl⟩
theorem WT.lvOk (h : WT C s) (hg : s.js[i]? = some j) (ht : 0 ≤ now ∧ now ≤ 1099511627776) : LvOk { s with js := s.js.set i j2 } j.id now := by
 obtain ⟨k, x, hx, hat⟩ := h.sideOf hg
 by_cases hst : j.st = 1 ∨ j.st = 2
 · refine .inr ⟨k, x, hx, ?_, fun hw hr => ?_, ?_, ?_⟩
   · rcases hst with hst | hst
     · exact .inr ((h.waits hx hg).2 ⟨hst, hat⟩)
     · exact .inl ((h.runs hx hg).2 ⟨hst, hat⟩)
   · have h1 := ((h.waits hx hg).1 hw).1
     have h2 := ((h.runs hx hg).1 hr).1
     omega
   · refine z01.2 ⟨((h.run k x hx).nodup_iff).2 (h.nd _), ((h.wait k x hx).nodup_iff).2 (h.nd _), ?_⟩
     intro a ha b hb e
     subst e
     obtain ⟨a1, b1, c1, d1⟩ := selJ_mem.1 ((h.run k x hx).mem_iff.1 ha)
     obtain ⟨a2, b2, c2, d2⟩ := selJ_mem.1 ((h.wait k x hx).mem_iff.1 hb)
     obtain ⟨m, hm⟩ := zz4.1 b1
     have := h.same hm b2 (by rw [d1, d2])
     subst this
     simp only [zyy, beq_iff_eq] at c1 c2
     omega
   · rcases ziv x j.id with ⟨w, ws, hr, hw, e⟩ | e
     · right
       have hmw : w ∈ x.wait.filter (· != j.id) := by rw [hw]; exact zzq
       obtain ⟨m1, m2⟩ := z0f.1 hmw
       obtain ⟨a, a1, a2, a3⟩ := selJ_mem.1 ((h.wait k x hx).mem_iff.1 m1)
       obtain ⟨m, hm⟩ := zz4.1 a1
       have hj := h.jok m a hm
       have hne : i ≠ m := fun e2 => by
        subst e2
        rw [hg] at hm; cases hm
        simp [a3] at m2
       refine ⟨m, a, by rw [e]; show w = _; rw [← a3]; exact hj.2.1, by show (s.js.set i j2)[m]? = _; rw [zzp hne]; exact hm, hj.2.1, jE_zero.2 ⟨hj.1, inJ_iff.2 ht, ?_⟩⟩
       simp only [zyy, beq_iff_eq] at a2
       unfold zl2
       simpa using a2.1
     · left; rw [e]
 · refine .inl fun z hz => ?_
   obtain ⟨m, hm⟩ := zz4.1 hz
   exact ⟨fun hh => hst (.inr ((h.runs hm hg).1 hh).1), fun hh => hst (.inl ((h.waits hm hg).1 hh).1)⟩
structure LvR (s : Wk) (i : Nat) (j2 : Jb) (now : Int) (s' : Wk) : Prop where
 p : s'.p = s.p
 b : s'.b = s.b
 Lg : s'.Lg = s.Lg
 ds : s'.ds = s.ds
 g : s'.g = s.g
 js : s'.js = s.js.set i j2 ∨ ∃ (m : Nat) (a : Jb), m ≠ i ∧ s.js[m]? = some a ∧ jE 1 a now = 0 ∧ s'.js = (s.js.set i j2).set m (jDo 1 a now)
 nx : s'.next ≤ s.next + 1
 due : ∀ t ∈ s'.T, t ∈ s.T ∨ now < t.1
theorem TimF.sub {T : List Tm} {w : Int} (h : TimF T w T') : ∀ t ∈ T', t ∈ T := by
 rcases h with ⟨t, h1, -⟩ | ⟨-, rfl⟩
 · exact fun x hx => h1.mem_iff.1 (zzo _ hx)
 · exact fun x hx => hx
theorem WT.leave (h : WT C s) (hg : s.js[i]? = some j) (hok : jOk j2 = true) (hid : j2.id = j.id) (hb : j2.bay = j.bay) (hst : j2.st ≠ 1 ∧ j2.st ≠ 2) (hL : Lvs { s with js := s.js.set i j2 } j.id now s') : WT C s' ∧ LvR s i j2 now s' := by
 have hlt := (zyz.1 hg).1
 obtain ⟨k0, x0, hx0, hat0⟩ := h.sideOf hg
 cases hL with
 | no hT hno =>
   have hs : j.st ≠ 1 ∧ j.st ≠ 2 := ⟨fun e => (hno x0 (zy4 hx0)).2 ((h.waits hx0 hg).2 ⟨e, hat0⟩), fun e => (hno x0 (zy4 hx0)).1 ((h.runs hx0 hg).2 ⟨e, hat0⟩)⟩
   exact ⟨h.out hg hok hid hb hst hs hT, rfl, rfl, rfl, rfl, rfl, .inl rfl, by show s.next ≤ s.next + 1; omega, fun t ht => .inl (hT.sub t ht)⟩
 | @one T' k x hT hx hin h0 =>
   have e : lvS x j.id = (zqr x j.id, 0) := by
    rcases ziv x j.id with ⟨w, ws, hr, hw, e⟩ | e
    · rw [e] at h0
      have h0 : w = 0 := h0
      have hmw : w ∈ x.wait.filter (· != j.id) := by rw [hw]; exact zzq
      obtain ⟨m1, -⟩ := z0f.1 hmw
      obtain ⟨a, a1, a2, a3⟩ := selJ_mem.1 ((h.wait k x hx).mem_iff.1 m1)
      obtain ⟨m, hm⟩ := zz4.1 a1
      have := (h.jok m a hm).2.1
      omega
    · exact e
   rw [e]
   exact ⟨h.drop hg hok hid hb hst hT hx hin, rfl, rfl, rfl, rfl, rfl, .inl rfl, by show s.next ≤ s.next + 1; omega, fun t ht => .inl (hT.sub t ht)⟩
 | @two T' k x m a hT hx hin hw2 ha hai hae =>
   have hkl := (zyz.1 hx).1
   have ha : (s.js.set i j2)[m]? = some a := ha
   rcases ziv x j.id with ⟨w, ws, hr, hw, e⟩ | e
   · rw [e] at hw2 ⊢
     have hw2 : w = (m : Int) + 1 := hw2
     have hwa : w = a.id := by omega
     subst hwa
     have h1 := h.drop hg hok hid hb hst hT hx hin
     have hrl : (x.run.filter (· != j.id)).length < x.run.length := by
      rcases z0o (x.run.filter (· != j.id)).length x.run.length with h | h
      · exact h
      · have := List.length_filter_eq_length_iff.1 (Nat.le_antisymm (z0b _ _) h) j.id hr
        simp at this
     have hroom := h.room x (zy4 hx)
     have h2 := h1.start (i := m) (j := a) (now := now) (k := k) (x := zqr x j.id) (ws := ws) (ws' := ws) ha hae (by show (s.l.set k (zqr x j.id))[k]? = _; rw [zz3 hkl]) (by show (x.wait.filter (· != j.id)).Perm _; rw [hw]) (by show ((x.run.filter (· != j.id)).length : Int) < x.n; omega) (.refl _)
     have hne : m ≠ i := fun e2 => by
      subst e2
      rw [zz3 hlt] at ha
      cases ha
      have := (jE_zero.1 hae).2.2
      have : j2.st = 1 := by simpa [zl2] using this
      exact hst.1 this
     refine ⟨?_, rfl, rfl, rfl, rfl, rfl, .inr ⟨m, a, hne, ?_, hae, rfl⟩, by show s.next + 1 ≤ s.next + 1; omega, fun t ht => ?_⟩
     · refine h2.congr ?_ rfl rfl rfl
       show s.l.set k _ = (s.l.set k (zqr x j.id)).set k _
       rw [List.set_set]
     · rw [zzp (Ne.symm hne)] at ha; exact ha
     · rcases zy3.1 ht with rfl | ht
       · right
         have := (zfy (jE_zero.1 hae).1 (.inl (by simpa [zl2] using (jE_zero.1 hae).2.2))).2.2.1
         show now < now + a.left
         omega
       · exact .inl (hT.sub t ht)
   · rw [e] at hw2
     have hw2 : (0 : Int) = (m : Int) + 1 := hw2
     omega
structure AsR (s0 : Wk) (i : Nat) (j : Jb) (now : Int) (s' : Wk) : Prop where
 p : s'.p = s0.p
 b : s'.b = s0.b
 Lg : s'.Lg = s0.Lg
 ds : s'.ds = s0.ds
 g : s'.g = s0.g
 js : s'.js = s0.js ∨ s'.js = s0.js.set i (jDo 1 j now)
 nx : s'.next ≤ s0.next + 1
 due : ∀ t ∈ s'.T, t ∈ s0.T ∨ now < t.1
theorem WT.asks {s0 : Wk} (hx : s0.l[k]? = some x) (h1 : WT C { s0 with l := s0.l.set k { x with wait := x.wait ++ [j.id] } }) (hg : s0.js[i]? = some j) (he : jE 1 j now = 0) (hA : Asks s0 k x i j now s') : WT C s' ∧ AsR s0 i j now s' := by
 have hkl := (zyz.1 hx).1
 cases hA with
 | wait hr =>
   have e : zqx x j.id = { x with wait := x.wait ++ [j.id] } := by unfold zqx; rw [if_neg hr]
   rw [e]
   exact ⟨h1, rfl, rfl, rfl, rfl, rfl, .inl rfl, by show s0.next ≤ s0.next + 1; omega, fun t ht => .inl ht⟩
 | run hr =>
   have e : zqx x j.id = { x with run := zi1 j.id x.run } := by unfold zqx; rw [if_pos hr]
   rw [e]
   have h2 := h1.start (i := i) (j := j) (now := now) (k := k) (x := { x with wait := x.wait ++ [j.id] }) (ws := x.wait) (ws' := x.wait) hg he (by show (s0.l.set k _)[k]? = _; rw [zz3 hkl]) (z1q (l₁ := x.wait) (l₂ := [j.id])) hr (.refl _)
   refine ⟨?_, rfl, rfl, rfl, rfl, rfl, .inr rfl, by show s0.next + 1 ≤ s0.next + 1; omega, fun t ht => ?_⟩
   · refine h2.congr ?_ rfl rfl rfl
     show s0.l.set k _ = (s0.l.set k _).set k _
     rw [List.set_set]
   · rcases zy3.1 ht with rfl | ht
     · right
       have := (zfy (jE_zero.1 he).1 (.inl (zgp he).2)).2.2.1
       show now < now + j.left
       omega
     · exact .inl ht
end
end
section
set_option maxRecDepth 100000
theorem zld {x : K4} (d : Int) : ∀ {L : List Stk} {l : Tb}, Srt l → tyQ d (zie x L l) = tyQ d l + zjn d L
 | [], l, _ => by simp [zie, zjn]
 | q :: r, l, h => by
   simp only [zie, zjn]
   rw [zld d (zhq h)]
   unfold tyQ
   rw [zd2 h]
   by_cases e : q.1 = d
   · rw [if_pos e, if_pos (by simpa [bin] using e)]; omega
   · rw [if_neg e, if_neg (by simpa [bin] using e)]; omega
structure KtC (C : Kt) : Prop where
 ok : KtOk C
 blue : ∀ b ∈ C.bl, zd1 b 32 = 0
theorem jDo_fix {w : Nat} : zo3 (jDo w j now) = zo3 j ∧ (jDo w j now).id = j.id ∧ (jDo w j now).bay = j.bay ∧ (jDo w j now).draft = j.draft ∧ jAt (jDo w j now) = jAt j := by
 unfold jDo
 split <;> exact ⟨rfl, rfl, rfl, rfl, rfl⟩
theorem zsg {w : Nat} (h : jOk j = true) (hs : jSt (jDo w j now) = true) : jOk (jDo w j now) = true := by
 unfold jOk at h ⊢
 rw [zyy] at h ⊢
 exact ⟨by rw [jDo_fix.1]; exact h.1, hs⟩
theorem jMay_2 (h : zl2 2 j now = true) : j.st = 2 ∧ j.start ≤ now ∧ now ≤ j.fin - 1 := by
 simp only [zl2, zyy, beq_iff_eq, inJ_iff] at h
 exact ⟨h.1, h.2.1, h.2.2⟩
theorem jMay_4 (h : zl2 4 j now = true) : j.st = 2 ∧ j.fin ≤ now := by
 simp only [zl2, zyy, beq_iff_eq, decide_eq_true_eq] at h
 exact ⟨h.1, by omega⟩
theorem jDo2_ok (h : jE 2 j now = 0) : jOk (jDo 2 j now) = true ∧ j.st = 2 := by
 obtain ⟨h1, h2, h3⟩ := jE_zero.1 h
 obtain ⟨hs, a1, a2⟩ := jMay_2 h3
 obtain ⟨b1, b2, b3, b4⟩ := zqd h1 hs
 refine ⟨zsg h1 ?_, hs⟩
 unfold jSt
 rw [if_pos (by show (3 : Int) = 1 ∨ (3 : Int) = 3; omega), zyy]
 refine ⟨rfl, inJ_iff.2 ?_⟩
 show 1 ≤ j.fin - now ∧ j.fin - now ≤ j.time
 omega
theorem jDo4_ok (h : jE 4 j now = 0) : jOk (jDo 4 j now) = true ∧ j.st = 2 ∧ j.fin ≤ now := by
 obtain ⟨h1, h2, h3⟩ := jE_zero.1 h
 obtain ⟨hs, a1⟩ := jMay_4 h3
 obtain ⟨b1, b2, b3, b4⟩ := zqd h1 hs
 refine ⟨zsg h1 ?_, hs, a1⟩
 unfold jSt
 rw [if_neg (by show ¬ ((4 : Int) = 1 ∨ (4 : Int) = 3); omega), if_neg (by show ¬ (4 : Int) = 2; omega), if_pos (by show (4 : Int) = 4 ∨ (4 : Int) = 5; omega)]
 show (inJ j.start 0 1099511627776 && (decide (j.start < j.fin) && (decide (j.fin ≤ 2199023255552) && (0 : Int) == 0))) = true
 rw [inJ_iff.2 b1, decide_eq_true (by omega), decide_eq_true (by omega)]
 rfl
theorem jDo5_ok (h : jE 5 j now = 0) : jOk (jDo 5 j now) = true ∧ j.st = 4 := by
 obtain ⟨h1, h2, h3⟩ := jE_zero.1 h
 have hs : j.st = 4 := by simpa [zl2] using h3
 refine ⟨zsg h1 ?_, hs⟩
 unfold jOk at h1
 rw [zyy] at h1
 have h4 := h1.2
 unfold jSt at h4 ⊢
 rw [if_neg (by omega), if_neg (by omega), if_pos (.inl hs)] at h4
 rw [if_neg (by show ¬ ((5 : Int) = 1 ∨ (5 : Int) = 3); omega), if_neg (by show ¬ (5 : Int) = 2; omega), if_pos (by show (5 : Int) = 4 ∨ (5 : Int) = 5; omega)]
 exact h4
theorem jDo6_ok (h : jE 6 j now = 0) : jOk (jDo 6 j now) = true ∧ 1 ≤ j.st ∧ j.st ≤ 3 := by
 obtain ⟨h1, h2, h3⟩ := jE_zero.1 h
 have hs := inJ_iff.1 (show inJ j.st 1 3 = true from h3)
 refine ⟨zsg h1 ?_, hs⟩
 unfold jSt
 rw [if_neg (by show ¬ ((6 : Int) = 1 ∨ (6 : Int) = 3); omega), if_neg (by show ¬ (6 : Int) = 2; omega), if_neg (by show ¬ ((6 : Int) = 4 ∨ (6 : Int) = 5); omega), if_pos (by show (6 : Int) = 6; rfl)]
 rfl
def MkF (Lg : List Mk) (j : Jb) : Prop := (j.st = 4 ∨ j.st = 5 → ofM Lg 1 j.id = some (j.fin, 1, j.id, 4)) ∧ (j.st = 6 → ∃ a, ofM Lg 1 j.id = some (a, 1, j.id, 6)) ∧ (1 ≤ j.st ∧ j.st ≤ 3 → ofM Lg 1 j.id = none)
def DrF (ds : List Dr) (j : Jb) : Prop := ∃ d, at1 ds j.draft = some d ∧ (zfz j = true → d.busy = j.id)
abbrev Pl (j : Jb) : Bool := decide (j.st ≤ 3)
abbrev live (js : List Jb) : Nat := (zcl Pl (·.id) js).length
structure WV (C : Kt) (M : Nat) (N : Int) (s : Wk) : Prop where
 wt : WT C s
 pinv : PInv s.p 562
 plen : s.p.length ≤ 4
 binv : BInv s.b
 blen : s.b.length ≤ M
 nx : s.next ≤ N
 dnum : DNum s.ds
 dlen : s.ds.length ≤ 64
 glen : s.g = (s.ds.length : Int)
 dok : ∀ d ∈ s.ds, isD d = true ∧ 1 ≤ d.own ∧ ∃ b, at1 C.bl d.blue = some b
 dr : ∀ (i : Nat) (j : Jb), s.js[i]? = some j → DrF s.ds j
 mark : ∀ (i : Nat) (j : Jb), s.js[i]? = some j → MkF s.Lg j
 mlen : s.Lg.length + live s.js = s.js.length
 mid : ∀ m ∈ s.Lg, m.2.2.1 ≤ (s.js.length : Int)
section
variable {C : Kt} {s s' : Wk} {now : Int} {M : Nat} {N : Int}
theorem WV.wb (h : WV C M N s) (hC : KtC C) (hM : M ≤ 700000) (hN : N < 1099511627776) : WB C s where
 cat := hC.ok
 pinv := h.pinv
 plen := by have := h.plen; omega
 binv := h.binv
 blen := by have := h.blen; omega
 dnum := h.dnum
 dlen := by have := h.dlen; omega
 glen := h.glen
 dok d hd := ⟨(h.dok d hd).1, (h.dok d hd).2.1⟩
 jok := h.wt.jok
 jlen := h.wt.jlen
 l4 := h.wt.l4
 lsz x hx := by
  have h1 := h.wt.rlen hx
  exact ⟨by omega, by omega, h.wt.room x hx⟩
 ids := h.wt.ids
 Tlen := by have := h.wt.Tlen; omega
 nx := by have := h.nx; omega
theorem WV.up {M' : Nat} {N' : Int} (h : WV C M N s) (hM : M ≤ M') (hN : N ≤ N') : WV C M' N' s := { h with blen := by have := h.blen; omega, nx := by have := h.nx; omega }
theorem WV.hdr (h : WV C M N s) (hC : KtC C) (i : Nat) (j : Jb) (hg : s.js[i]? = some j) : ∃ d b, at1 s.ds j.draft = some d ∧ at1 C.bl d.blue = some b ∧ zd1 b 32 = 0 := by
 obtain ⟨d, hd, -⟩ := h.dr i j hg
 obtain ⟨m, hm, -⟩ := zb8 hd
 obtain ⟨b, hb⟩ := (h.dok d (zy4 hm)).2.2
 obtain ⟨n, hn, -⟩ := zb8 hb
 exact ⟨d, b, hd, hb, hC.blue b (zy4 hn)⟩
theorem zdt {e : Jb} (h : js[i]? = some j) : live (js.set i e) + (if j.st ≤ 3 then 1 else 0) = live js + (if e.st ≤ 3 then 1 else 0) := by
 obtain ⟨r, r1, r2, r3⟩ := zc1 (P := Pl) (f := (·.id)) h
 unfold live
 by_cases h1 : j.st ≤ 3 <;> by_cases h2 : e.st ≤ 3
 · rw [if_pos h1, if_pos h2, (r1 (by simpa using h1)).length_eq, ((r3 e).1 (by simpa using h2)).length_eq] <;> simp
 · rw [if_pos h1, if_neg h2, (r1 (by simpa using h1)).length_eq, ((r3 e).2 (by simpa using h2)).length_eq] <;> simp
 · rw [if_neg h1, if_pos h2, (r2 (by simpa using h1)).length_eq, ((r3 e).1 (by simpa using h2)).length_eq] <;> simp
 · rw [if_neg h1, if_neg h2, (r2 (by simpa using h1)).length_eq, ((r3 e).2 (by simpa using h2)).length_eq] <;> simp
theorem zsd (h : js[i]? = some j) (he : jE 1 j now = 0) : live (js.set i (jDo 1 j now)) = live js := by
 have h1 := zdt (e := jDo 1 j now) h
 have hs := (zgp he).2
 rw [if_pos (by omega), if_pos (by show (2 : Int) ≤ 3; omega)] at h1
 omega
theorem zjk {Lg : List Mk} (he : jE 1 j now = 0) (h : MkF Lg j) : MkF Lg (jDo 1 j now) := by
 have hs := (zgp he).2
 refine ⟨fun h4 => ?_, fun h6 => ?_, fun _ => h.2.2 (by omega)⟩
 · have h4 : (2 : Int) = 4 ∨ (2 : Int) = 5 := h4; omega
 · have h6 : (2 : Int) = 6 := h6; omega
theorem zjl {ds : List Dr} (he : jE 1 j now = 0) (h : DrF ds j) : DrF ds (jDo 1 j now) := by
 obtain ⟨d, h1, h2⟩ := h
 have hs := (zgp he).2
 exact ⟨d, h1, fun _ => h2 (by unfold zfz; rw [hs]; rfl)⟩
theorem zek (h : ∀ (m : Nat) (a : Jb), m ≠ i → js[m]? = some a → P a) (h2 : P j2) : ∀ (m : Nat) (a : Jb), (js.set i j2)[m]? = some a → P a := fun m a ha => by
 rw [List.getElem?_set] at ha
 split at ha
 · split at ha
   · cases ha; exact h2
   · cases ha
 · rename_i hne
   exact h m a (fun e => hne e.symm) ha
theorem LvR.all (h : LvR s i j2 now s') (hP : ∀ (m : Nat) (a : Jb), m ≠ i → s.js[m]? = some a → P a) (h2 : P j2) (h1 : ∀ a, jE 1 a now = 0 → P a → P (jDo 1 a now)) : ∀ (m : Nat) (a : Jb), s'.js[m]? = some a → P a := by
 rcases h.js with e | ⟨m, a, hne, ha, hae, e⟩
 · rw [e]; exact zek hP h2
 · rw [e]
   exact zek (fun n b hn hb => zek hP h2 n b hb) (h1 a hae (hP m a hne ha))
theorem LvR.live (h : LvR s i j2 now s') (hg : s.js[i]? = some j) : live s'.js = live (s.js.set i j2) ∧ s'.js.length = s.js.length := by
 rcases h.js with e | ⟨m, a, hne, ha, hae, e⟩
 · rw [e]; exact ⟨rfl, by simp⟩
 · rw [e]
   exact ⟨zsd (by rw [zzp (Ne.symm hne)]; exact ha) hae, by simp⟩
theorem AsR.all (h : AsR s i j now s') (hP : ∀ (m : Nat) (a : Jb), s.js[m]? = some a → P a) (h1 : P (jDo 1 j now)) : ∀ (m : Nat) (a : Jb), s'.js[m]? = some a → P a := by
 rcases h.js with e | e
 · rw [e]; exact hP
 · rw [e]; exact zek (fun n b _ hb => hP n b hb) h1
theorem AsR.live (h : AsR s i j now s') (hg : s.js[i]? = some j) (he : jE 1 j now = 0) : live s'.js = live s.js ∧ s'.js.length = s.js.length := by
 rcases h.js with e | e
 · rw [e]; exact ⟨rfl, rfl⟩
 · rw [e]; exact ⟨zsd hg he, by simp⟩
theorem zys (h : WV C M N s) (hg : s.js[i]? = some j) (hs : 1 ≤ j.st ∧ j.st ≤ 3) {a st : Int} (ha : 0 ≤ a ∧ a ≤ 1099511627776) (hst : st = 4 ∨ st = 6) (hl : zcd s.Lg ≤ a) : zml s.Lg (a, 1, j.id, st) = s.Lg ++ [(a, 1, j.id, st)] := by
 have hid := (h.wt.jok i j hg).2.1
 have hlt := (zyz.1 hg).1
 have hj := h.wt.jlen
 have hm := (h.mark i j hg).2.2 hs
 have hml := h.mlen
 unfold zml
 rw [if_pos]
 unfold zf7
 rw [if_pos ⟨⟨by simpa using ha.1, by simpa using ha.2, by simp only; omega, by simp only; omega, .inl ⟨rfl, by simpa using hst⟩⟩, by simpa using hl⟩]
 rw [show ofM s.Lg ((a, 1, j.id, st) : Mk).2.1 ((a, 1, j.id, st) : Mk).2.2.1 = none from hm]
 rw [if_neg (by simp), if_neg (by omega)]
theorem zs7 {Lg : List Mk} {a st id : Int} {b : Jb} (hne : b.id ≠ id) (h : MkF Lg b) : MkF (Lg ++ [(a, 1, id, st)]) b := by
 refine ⟨fun h4 => ?_, fun h6 => ?_, fun h3 => ?_⟩
 · rw [zft, h.1 h4]
 · obtain ⟨c, hc⟩ := h.2.1 h6
   exact ⟨c, by rw [zft, hc]⟩
 · rw [zft, h.2.2 h3]
   simp only
   rw [if_neg]
   rintro ⟨-, hh⟩
   exact hne hh.symm
theorem WV.idne (h : WV C M N s) {m : Nat} {a : Jb} (hg : s.js[i]? = some j) (hm : s.js[m]? = some a) (hne : m ≠ i) : a.id ≠ j.id := by
 have h1 := (h.wt.jok i j hg).2.1
 have h2 := (h.wt.jok m a hm).2.1
 omega
theorem jOpen_iff : zfz j = true ↔ 1 ≤ j.st ∧ j.st ≤ 4 := by unfold zfz; exact inJ_iff
theorem WV.only (h : WV C M N s) {m : Nat} {a : Jb} (hg : s.js[i]? = some j) (hm : s.js[m]? = some a) (hne : m ≠ i) (h1 : zfz j = true) (h2 : zfz a = true) : a.draft ≠ j.draft := fun e => by
 obtain ⟨d, hd, hb⟩ := h.dr i j hg
 obtain ⟨d2, hd2, hb2⟩ := h.dr m a hm
 rw [e, hd] at hd2
 cases hd2
 exact h.idne hg hm hne (by rw [← hb h1, ← hb2 h2])
end
end
section
set_option maxRecDepth 100000
section
variable {C : Kt} {s s' : Wk} {now : Int} {M : Nat} {N : Int}
theorem WV.pause (h : WV C M N s) (hg : s.js[i]? = some j) (he : jE 2 j now = 0) (hL : Lvs { s with js := s.js.set i (jDo 2 j now) } j.id now s') : WV C M (N + 1) s' ∧ LvR s i (jDo 2 j now) now s' := by
 obtain ⟨hok, hst⟩ := jDo2_ok he
 obtain ⟨wt, R⟩ := h.wt.leave hg hok rfl rfl (by show (3 : Int) ≠ 1 ∧ (3 : Int) ≠ 2; omega) hL
 obtain ⟨v1, v2⟩ := R.live hg
 have hls := zdt (e := jDo 2 j now) hg
 rw [if_pos (by omega), if_pos (by show (3 : Int) ≤ 3; omega)] at hls
 refine ⟨?_, R⟩
 exact {
  wt := wt
  pinv := by rw [R.p]; exact h.pinv
  plen := by rw [R.p]; exact h.plen
  binv := by rw [R.b]; exact h.binv
  blen := by rw [R.b]; exact h.blen
  nx := by have := R.nx; have := h.nx; omega
  dnum := by rw [R.ds]; exact h.dnum
  dlen := by rw [R.ds]; exact h.dlen
  glen := by rw [R.ds, R.g]; exact h.glen
  dok := by rw [R.ds]; exact h.dok
  dr := by
   rw [R.ds]
   refine R.all (fun m a _ ha => h.dr m a ha) ?_ fun a => zjl
   obtain ⟨d, h1, h2⟩ := h.dr i j hg
   exact ⟨d, h1, fun _ => h2 (jOpen_iff.2 (by omega))⟩
  mark := by
   rw [R.Lg]
   refine R.all (fun m a _ ha => h.mark m a ha) ?_ fun a => zjk
   have h3 := (h.mark i j hg).2.2 (by omega)
   exact ⟨fun h4 => by have h4 : (3 : Int) = 4 ∨ (3 : Int) = 5 := h4; omega, fun h6 => by have h6 : (3 : Int) = 6 := h6; omega, fun _ => h3⟩
  mlen := by rw [R.Lg, v1, v2]; have := h.mlen; omega
  mid := by rw [R.Lg, v2]; exact h.mid }
theorem WV.fire (h : WV C M N s) (hg : s.js[i]? = some j) (he : jE 4 j now = 0) (hfin : now = j.fin) (hl : zcd s.Lg ≤ now) (hL : Lvs { s with js := s.js.set i (jDo 4 j now) } j.id now s') :
 zml s'.Lg (now, 1, j.id, 4) = s.Lg ++ [(now, 1, j.id, 4)] ∧ WV C M (N + 1) { s' with Lg := s.Lg ++ [(now, 1, j.id, 4)] } ∧ LvR s i (jDo 4 j now) now s' := by
 obtain ⟨hok, hst, -⟩ := jDo4_ok he
 have ht := inJ_iff.1 (jE_zero.1 he).2.1
 obtain ⟨wt, R⟩ := h.wt.leave hg hok rfl rfl (by show (4 : Int) ≠ 1 ∧ (4 : Int) ≠ 2; omega) hL
 obtain ⟨v1, v2⟩ := R.live hg
 have hls := zdt (e := jDo 4 j now) hg
 rw [if_pos (by omega), if_neg (by show ¬ (4 : Int) ≤ 3; omega)] at hls
 have ea : zml s'.Lg (now, 1, j.id, 4) = s.Lg ++ [(now, 1, j.id, 4)] := by rw [R.Lg]; exact zys h hg (by omega) ht (.inl rfl) hl
 have hlt := (zyz.1 hg).1
 have hid := (h.wt.jok i j hg).2.1
 refine ⟨ea, ?_, R⟩
 exact {
  wt := wt.congr rfl rfl rfl rfl
  pinv := by show PInv s'.p 562; rw [R.p]; exact h.pinv
  plen := by show s'.p.length ≤ 4; rw [R.p]; exact h.plen
  binv := by show BInv s'.b; rw [R.b]; exact h.binv
  blen := by show s'.b.length ≤ M; rw [R.b]; exact h.blen
  nx := by show s'.next ≤ N + 1; have := R.nx; have := h.nx; omega
  dnum := by show DNum s'.ds; rw [R.ds]; exact h.dnum
  dlen := by show s'.ds.length ≤ 64; rw [R.ds]; exact h.dlen
  glen := by show s'.g = (s'.ds.length : Int); rw [R.ds, R.g]; exact h.glen
  dok := by show ∀ d ∈ s'.ds, _; rw [R.ds]; exact h.dok
  dr := by
   show ∀ (i : Nat) (j : Jb), s'.js[i]? = some j → DrF s'.ds j
   rw [R.ds]
   refine R.all (fun m a _ ha => h.dr m a ha) ?_ fun a => zjl
   obtain ⟨d, h1, h2⟩ := h.dr i j hg
   exact ⟨d, h1, fun _ => h2 (jOpen_iff.2 (by omega))⟩
  mark := by
   refine R.all (fun m a hne ha => zs7 (h.idne hg ha hne) (h.mark m a ha)) ?_ fun a => zjk
   have h3 := (h.mark i j hg).2.2 (by omega)
   refine ⟨fun _ => ?_, fun h6 => by have h6 : (4 : Int) = 6 := h6; omega, fun h4 => by have h4 : 1 ≤ (4 : Int) ∧ (4 : Int) ≤ 3 := h4; omega⟩
   show ofM (s.Lg ++ [(now, 1, j.id, 4)]) 1 j.id = some (j.fin, 1, j.id, 4)
   rw [zft, h3]
   simp only
   rw [if_pos ⟨trivial, trivial⟩, hfin]
  mlen := by
   show (s.Lg ++ [(now, 1, j.id, 4)]).length + live s'.js = s'.js.length
   rw [v1, v2, zzl, List.length_singleton]
   have := h.mlen
   omega
  mid := fun m hm => by
   show m.2.2.1 ≤ (s'.js.length : Int)
   rw [v2]
   rcases zy6.1 hm with hm | hm
   · exact h.mid m hm
   · rw [z0s.1 hm]
     simp only
     omega }
theorem WV.resume (h : WV C M N s) (hg : s.js[i]? = some j) (he : jE 3 j 0 = 0) (ht : 0 ≤ now ∧ now ≤ 1099511627776) (hat : jAt j = (k : Int)) (hx : s.l[k]? = some x)
 (hA : Asks { s with js := s.js.set i (jDo 3 j 0) } k x i (jDo 3 j 0) now s') : WV C M (N + 1) s' ∧ AsR { s with js := s.js.set i (jDo 3 j 0) } i (jDo 3 j 0) now s' := by
 have hlt := (zyz.1 hg).1
 have hst := zxi (jE_zero.1 he).2.2
 have hE := jE_res he ht
 have hgs : (s.js.set i (jDo 3 j 0))[i]? = some (jDo 3 j 0) := zz3 hlt
 obtain ⟨wt, R⟩ := WT.asks (C := C) (s0 := { s with js := s.js.set i (jDo 3 j 0) }) hx (h.wt.queue hg (zxh he) rfl rfl (by omega) rfl hx hat) hgs hE hA
 obtain ⟨v1, v2⟩ := R.live hgs hE
 have hls := zdt (e := jDo 3 j 0) hg
 rw [if_pos (by omega), if_pos (by show (1 : Int) ≤ 3; omega)] at hls
 have v1' : live s'.js = live (s.js.set i (jDo 3 j 0)) := v1
 have v2' : s'.js.length = s.js.length := by rw [v2]; simp
 refine ⟨?_, R⟩
 have dj : DrF s.ds (jDo 3 j 0) := by
  obtain ⟨d, h1, h2⟩ := h.dr i j hg
  exact ⟨d, h1, fun _ => h2 (jOpen_iff.2 (by omega))⟩
 have mj : MkF s.Lg (jDo 3 j 0) := by
  have h3 := (h.mark i j hg).2.2 (by omega)
  exact ⟨fun h4 => by have h4 : (1 : Int) = 4 ∨ (1 : Int) = 5 := h4; omega, fun h6 => by have h6 : (1 : Int) = 6 := h6; omega, fun _ => h3⟩
 exact {
  wt := wt
  pinv := by rw [R.p]; exact h.pinv
  plen := by rw [R.p]; exact h.plen
  binv := by rw [R.b]; exact h.binv
  blen := by rw [R.b]; exact h.blen
  nx := by have h1 : s'.next ≤ s.next + 1 := R.nx; have := h.nx; omega
  dnum := by rw [R.ds]; exact h.dnum
  dlen := by rw [R.ds]; exact h.dlen
  glen := by rw [R.ds, R.g]; exact h.glen
  dok := by rw [R.ds]; exact h.dok
  dr := by
   rw [R.ds]
   exact R.all (zek (fun m a _ ha => h.dr m a ha) dj) (zjl hE dj)
  mark := by
   rw [R.Lg]
   exact R.all (zek (fun m a _ ha => h.mark m a ha) mj) (zjk hE mj)
  mlen := by
   rw [R.Lg, v1', v2']
   have := h.mlen
   show s.Lg.length + _ = _
   omega
  mid := by rw [R.Lg, v2']; exact h.mid }
theorem zxx (h : WV C M N s) (hg : s.js[i]? = some j) (runs : Int) : DNum (zdw s.ds j.draft j.id runs) ∧ (zdw s.ds j.draft j.id runs).length = s.ds.length ∧ (∀ d ∈ zdw s.ds j.draft j.id runs, isD d = true ∧ 1 ≤ d.own ∧ ∃ b, at1 C.bl d.blue = some b) ∧
 (zfz j = true → ∀ (m : Nat) (a : Jb), m ≠ i → s.js[m]? = some a → DrF (zdw s.ds j.draft j.id runs) a) ∧ ∃ d, at1 (zdw s.ds j.draft j.id runs) j.draft = some d := by
 obtain ⟨d, hd, hb⟩ := h.dr i j hg
 obtain ⟨n, hn, hdn⟩ := zb8 hd
 have hdo := h.dok d (zy4 hn)
 unfold zdw
 rw [hd]
 simp only
 split
 · rename_i hf
   have en : (j.draft - 1).toNat = n := by omega
   have hI : isD (zom d runs) = true := by
    have h1 := zf0 hdo.1
    unfold zt4 at hf
    split at hf
    · cases hf
    · rename_i hu
      have hu : zg9 j.id runs = true := by simpa using hu
      unfold zg9 at hu
      simp only [zyy, inJ_iff] at hu
      split at hf
      · cases hf
      · split at hf
        · cases hf
        · rename_i h3
          unfold isD zom
          simp only [zyy, inJ_iff]
          refine ⟨⟨h1.1, h1.2.1, h1.2.2.1⟩, ⟨h1.2.2.2.1, h1.2.2.2.2.1, h1.2.2.2.2.2.1, ?_⟩, by omega⟩
          split <;> omega
   rw [en]
   refine ⟨h.dnum.set hn rfl, by simp, fun x hx => ?_, fun ho m a hne ha => ?_, ?_⟩
   · rcases z13 hx with hx | rfl
     · exact h.dok x hx
     · exact ⟨hI, hdo.2.1, hdo.2.2⟩
   · obtain ⟨d2, hd2, hb2⟩ := h.dr m a ha
     have := zmj (d' := zom d runs) hd a.draft d2 hd2
     rw [en] at this
     refine ⟨_, this, fun ho2 => ?_⟩
     rw [if_neg (h.only hg ha hne ho ho2)]
     exact hb2 ho2
   · have := zmj (d' := zom d runs) hd j.draft d hd
     rw [en] at this
     exact ⟨_, this⟩
 · exact ⟨h.dnum, rfl, h.dok, fun _ m a _ ha => h.dr m a ha, d, hd⟩
theorem backB_ty (hb : BInv s.b) (j : Jb) (t : Int) : tyQ t (zj3 C j s.b) = tyQ t s.b := by
 unfold zj3
 rw [zld t (hb.rmv _).srt]
 exact zpi _ _ _
theorem WV.cancel (h : WV C M N s) (hg : s.js[i]? = some j) (he : jE 6 j 0 = 0) (ht : 0 ≤ now ∧ now ≤ 1099511627776) (hl : zcd s.Lg ≤ now) (hbi : BInv (zj3 C j s.b)) (hbl : (zj3 C j s.b).length ≤ s.b.length) (hL : Lvs (canW C s i j) j.id now s') :
 zml s'.Lg (now, 1, j.id, 6) = s.Lg ++ [(now, 1, j.id, 6)] ∧ WV C M (N + 1) { s' with Lg := s.Lg ++ [(now, 1, j.id, 6)] } ∧ (∀ t, tyQ t s'.b = tyQ t s.b) ∧ ∀ t ∈ s'.T, t ∈ s.T ∨ now < t.1 := by
 obtain ⟨hok, hst⟩ := jDo6_ok he
 obtain ⟨f1, f2, f3, f4, f5⟩ := zxx h hg (zbj j)
 have wt0 : WT C { s with b := zj3 C j s.b, ds := zdw s.ds j.draft j.id (zbj j) } := h.wt.congr rfl rfl rfl rfl
 obtain ⟨wt, R⟩ := wt0.leave hg hok rfl rfl (by show (6 : Int) ≠ 1 ∧ (6 : Int) ≠ 2; omega) hL
 obtain ⟨v1, v2⟩ := R.live hg
 have v1' : live s'.js = live (s.js.set i (jDo 6 j 0)) := v1
 have v2' : s'.js.length = s.js.length := v2
 have hls := zdt (e := jDo 6 j 0) hg
 rw [if_pos (by omega), if_neg (by show ¬ (6 : Int) ≤ 3; omega)] at hls
 have eLg : s'.Lg = s.Lg := R.Lg
 have eb : s'.b = zj3 C j s.b := R.b
 have ep : s'.p = s.p := R.p
 have eds : s'.ds = zdw s.ds j.draft j.id (zbj j) := R.ds
 have eg : s'.g = s.g := R.g
 have ea : zml s'.Lg (now, 1, j.id, 6) = s.Lg ++ [(now, 1, j.id, 6)] := by rw [eLg]; exact zys h hg hst ht (.inr rfl) hl
 have hlt := (zyz.1 hg).1
 have hid := (h.wt.jok i j hg).2.1
 have ho : zfz j = true := jOpen_iff.2 (by omega)
 refine ⟨ea, ?_, fun t => by rw [eb]; exact backB_ty h.binv j t, R.due⟩
 exact {
  wt := wt.congr rfl rfl rfl rfl
  pinv := by show PInv s'.p 562; rw [ep]; exact h.pinv
  plen := by show s'.p.length ≤ 4; rw [ep]; exact h.plen
  binv := by show BInv s'.b; rw [eb]; exact hbi
  blen := by show s'.b.length ≤ M; rw [eb]; have := h.blen; omega
  nx := by show s'.next ≤ N + 1; have h1 : s'.next ≤ s.next + 1 := R.nx; have := h.nx; omega
  dnum := by show DNum s'.ds; rw [eds]; exact f1
  dlen := by show s'.ds.length ≤ 64; rw [eds, f2]; exact h.dlen
  glen := by show s'.g = (s'.ds.length : Int); rw [eds, eg, f2]; exact h.glen
  dok := by show ∀ d ∈ s'.ds, _; rw [eds]; exact f3
  dr := by
   show ∀ (i : Nat) (j : Jb), s'.js[i]? = some j → DrF s'.ds j
   rw [eds]
   refine R.all (fun m a hne ha => f4 ho m a hne ha) ?_ fun a => zjl
   obtain ⟨d, h1⟩ := f5
   exact ⟨d, h1, fun h2 => by have h2 := jOpen_iff.1 h2; have h2 : 1 ≤ (6 : Int) ∧ (6 : Int) ≤ 4 := h2; omega⟩
  mark := by
   refine R.all (fun m a hne ha => zs7 (h.idne hg ha hne) (h.mark m a ha)) ?_ fun a => zjk
   have h3 := (h.mark i j hg).2.2 hst
   refine ⟨fun h4 => by have h4 : (6 : Int) = 4 ∨ (6 : Int) = 5 := h4; omega, fun _ => ⟨now, ?_⟩, fun h4 => by have h4 : 1 ≤ (6 : Int) ∧ (6 : Int) ≤ 3 := h4; omega⟩
   show ofM (s.Lg ++ [(now, 1, j.id, 6)]) 1 j.id = some (now, 1, j.id, 6)
   rw [zft, h3]
   simp only
   rw [if_pos ⟨trivial, trivial⟩]
  mlen := by
   show (s.Lg ++ [(now, 1, j.id, 6)]).length + live s'.js = s'.js.length
   rw [v1', v2', zzl, List.length_singleton]
   have := h.mlen
   omega
  mid := fun m hm => by
   show m.2.2.1 ≤ (s'.js.length : Int)
   rw [v2']
   rcases zy6.1 hm with hm | hm
   · exact h.mid m hm
   · rw [z0s.1 hm]
     simp only
     omega }
end
end
section
set_option maxRecDepth 100000
section
variable {C : Kt} {s s' : Wk} {now : Int} {M : Nat} {N : Int}
theorem zkp {e : Int} (h : Gives C s j d b e s') (hb : BInv s.b) : BInv s'.b ∧ s'.b.length ≤ s.b.length + 1 := by
 cases h with
 | over => exact ⟨hb, z0i _⟩
 | made h1 h2 h3 =>
   refine ⟨h3, ?_⟩
   have h4 := zhr (k := bin ⟨j.own, j.div, zbi C j, 1⟩ b.makes) (v := zam (bin ⟨j.own, j.div, zbi C j, 1⟩ b.makes) (rmv (vK j.id (zbi C j)) s.b) + b.per * j.runs) (l := rmv (vK j.id (zbi C j)) s.b)
   have h5 : (rmv (vK j.id (zbi C j)) s.b).length ≤ s.b.length := z0b _ _
   show (zez _ _ _).length ≤ _
   omega
 | me => exact ⟨hb, z0i _⟩
 | te => exact ⟨hb, z0i _⟩
 | full => exact ⟨hb, z0i _⟩
 | cop => exact ⟨hb, z0i _⟩
theorem WV.given (h : WV C M N s) (F : GivF s s') (hb : BInv s'.b) (hbl : s'.b.length ≤ s.b.length + 1) : WV C (M + 1) N s' where
 wt := h.wt.congr F.l F.T F.next F.js
 pinv := by rw [F.p]; exact h.pinv
 plen := by rw [F.p]; exact h.plen
 binv := hb
 blen := by have := h.blen; omega
 nx := by rw [F.next]; exact h.nx
 dnum := F.dnum
 dlen := by have := h.dlen; rcases F.dlen with h | h <;> omega
 glen := F.glen
 dok d hd := by
  obtain ⟨h1, d0, h2, h3, h4⟩ := F.dok d hd
  have := h.dok d0 h2
  exact ⟨h1, by rw [h3]; exact this.2.1, by rw [h4]; exact this.2.2⟩
 dr i j hg := by
  rw [F.js] at hg
  obtain ⟨d, h1, h2⟩ := h.dr i j hg
  obtain ⟨d', h3, h4⟩ := F.old _ d h1
  exact ⟨d', h3, fun ho => by rw [h4]; exact h2 ho⟩
 mark := by rw [F.js, F.Lg]; exact h.mark
 mlen := by rw [F.js, F.Lg]; exact h.mlen
 mid := by rw [F.js, F.Lg]; exact h.mid
theorem WV.deliver (h : WV C M N s) (hg : s.js[i]? = some j) (he : jE 5 j 0 = 0) : WV C M N { s with ds := zdw s.ds j.draft j.id 0, js := s.js.set i (jDo 5 j 0) } := by
 obtain ⟨hok, hst⟩ := jDo5_ok he
 obtain ⟨f1, f2, f3, f4, f5⟩ := zxx h hg 0
 have hls := zdt (e := jDo 5 j 0) hg
 rw [if_neg (by omega), if_neg (by show ¬ (5 : Int) ≤ 3; omega)] at hls
 have ho : zfz j = true := jOpen_iff.2 (by omega)
 have hT : TimF s.T (2 * j.id) s.T := .inr ⟨fun t ht e => by have := (h.wt.timS hg ht e).2; omega, rfl⟩
 exact {
  wt := (h.wt.out hg hok rfl rfl (by show (5 : Int) ≠ 1 ∧ (5 : Int) ≠ 2; omega) (by omega) hT).congr rfl rfl rfl rfl
  pinv := h.pinv
  plen := h.plen
  binv := h.binv
  blen := h.blen
  nx := h.nx
  dnum := f1
  dlen := by show (zdw s.ds j.draft j.id 0).length ≤ 64; rw [f2]; exact h.dlen
  glen := by show s.g = ((zdw s.ds j.draft j.id 0).length : Int); rw [f2]; exact h.glen
  dok := f3
  dr := zek (fun m a hne ha => f4 ho m a hne ha) (by
   obtain ⟨d, h1⟩ := f5
   exact ⟨d, h1, fun h2 => by have h2 := jOpen_iff.1 h2; have h2 : 1 ≤ (5 : Int) ∧ (5 : Int) ≤ 4 := h2; omega⟩)
  mark := zek (fun m a _ ha => h.mark m a ha) (by
   have h3 := (h.mark i j hg).1 (.inl hst)
   exact ⟨fun _ => h3, fun h6 => by have h6 : (5 : Int) = 6 := h6; omega, fun h4 => by have h4 : 1 ≤ (5 : Int) ∧ (5 : Int) ≤ 3 := h4; omega⟩)
  mlen := by
   show s.Lg.length + live (s.js.set i (jDo 5 j 0)) = (s.js.set i (jDo 5 j 0)).length
   rw [zzz]
   have := h.mlen
   omega
  mid := by
   show ∀ m ∈ s.Lg, m.2.2.1 ≤ ((s.js.set i (jDo 5 j 0)).length : Int)
   rw [zzz]
   exact h.mid }
theorem zyo (h : ∀ (m : Nat) (a : Jb), js[m]? = some a → P a) (h2 : P j) : ∀ (m : Nat) (a : Jb), (js ++ [j])[m]? = some a → P a := fun m a ha => by
 rcases zy6.1 (zy4 ha) with hm | hm
 · obtain ⟨n, hn⟩ := zz4.1 hm
   exact h n a hn
 · rw [z0s.1 hm]; exact h2
theorem WV.inst (h : WV C M N s) (hC : KtC C) {y : Yb} {p' b' : Tb} (hi : s.ds[i]? = some d) (hdn : o.draft = (i : Int) + 1) (F : InsF C s now o y d b k x j p' b') (hA : Asks (insW s i d j p' b') k x s.js.length j now s') :
 WV C (M + 16) (N + 1) s' ∧ (∀ t, tyQ t s'.b = tyQ t s.b) ∧ ∀ t ∈ s'.T, t ∈ s.T ∨ now < t.1 := by
 have hj := F.job
 have hjid : j.id = (s.js.length : Int) + 1 := by rw [hj]; rfl
 have hjdr : j.draft = o.draft := by rw [hj]; rfl
 have hjst : j.st = 1 := by rw [hj]; rfl
 have hjbay : j.bay = o.bay := by rw [hj]; rfl
 have hjneeds : j.needs = (zcg b d o).1 := by rw [hj]; rfl
 have hlen := F.len
 have hat1 : at1 s.ds o.draft = some d := zal hi hdn
 have hE : jE 1 j now = 0 := jE_zero.2 ⟨F.ok, inJ_iff.2 F.find.t, by unfold zl2; rw [hjst]; rfl⟩
 have hdok := h.dok d (zy4 hi)
 have hb2 : 1 ≤ j.bay ∧ j.bay ≤ 2 := by
  obtain ⟨n, hn, hn2⟩ := zb8 F.find.bay
  have h1 := (zyz.1 hn).1
  have h2 := hC.ok.bays
  omega
 have hgs : (s.js ++ [j])[s.js.length]? = some j := by simp
 obtain ⟨wt, R⟩ := WT.asks (C := C) (s0 := insW s i d j p' b') F.side ((h.wt.more F.ok hjid hb2 hjst hlen F.side F.at1).congr rfl rfl rfl rfl) hgs hE hA
 obtain ⟨v1, v2⟩ := R.live hgs hE
 have v1' : live s'.js = live s.js + 1 := by
  rw [v1]
  show live (s.js ++ [j]) = _
  unfold live
  rw [zdn, zri _ (show Pl j = true by simp [hjst])]
  simp [zcl]
 have v2' : s'.js.length = s.js.length + 1 := by rw [v2]; simp
 have eLg : s'.Lg = s.Lg := R.Lg
 have eb : s'.b = b' := R.b
 have ep : s'.p = p' := R.p
 have eds : s'.ds = s.ds.set i (zug d ((s.js.length : Int) + 1) (zbj j)) := R.ds
 have eg : s'.g = s.g := R.g
 have hnb := (zcj F.plan).1
 have hmade : 0 ≤ zbj j ∧ zbj j ≤ 1000 ∧ (d.runs = -1 ∨ zbj j ≤ d.runs) := by
  have e1 : j.kind = o.kind := by rw [hj]; rfl
  have e2 : j.runs = o.runs := by rw [hj]; rfl
  unfold zbj zca at *
  split
  · rename_i h; rw [e1] at h; rw [e2]; omega
  · rename_i h; rw [e1] at h; omega
 have hI : isD (zug d ((s.js.length : Int) + 1) (zbj j)) = true := by
  have h1 := zf0 hdok.1
  unfold isD zug
  simp only [zyy, inJ_iff]
  refine ⟨⟨h1.1, h1.2.1, h1.2.2.1⟩, ⟨h1.2.2.2.1, h1.2.2.2.2.1, h1.2.2.2.2.2.1, ?_⟩, by omega⟩
  split <;> omega
 have hset : ∀ (n : Int) (z : Dr), at1 s.ds n = some z → at1 (s.ds.set i (zug d ((s.js.length : Int) + 1) (zbj j))) n = some (if n = o.draft then zug d ((s.js.length : Int) + 1) (zbj j) else z) := fun n z hz => by
  have := zmj (d' := zug d ((s.js.length : Int) + 1) (zbj j)) hat1 n z hz
  rwa [show (o.draft - 1).toNat = i by omega] at this
 have dj : DrF (s.ds.set i (zug d ((s.js.length : Int) + 1) (zbj j))) j := ⟨_, by rw [hjdr]; exact hset _ d hat1, fun _ => by rw [if_pos rfl, hjid]; rfl⟩
 have mj : MkF s.Lg j := by
  refine ⟨fun h4 => by omega, fun h6 => by omega, fun _ => ?_⟩
  unfold ofM
  refine z2d.2 fun m hm hh => ?_
  have := h.mid m hm
  simp only [zyy, beq_iff_eq] at hh
  omega
 refine ⟨?_, fun t => ?_, R.due⟩
 · exact {
    wt := wt
    pinv := by rw [ep]; exact F.pinv
    plen := by rw [ep, F.plen]; exact h.plen
    binv := by rw [eb]; exact F.binv
    blen := by rw [eb]; have := F.blen; have := h.blen; omega
    nx := by have h1 : s'.next ≤ s.next + 1 := R.nx; have := h.nx; omega
    dnum := by rw [eds]; exact h.dnum.set hi rfl
    dlen := by rw [eds, zzz]; exact h.dlen
    glen := by rw [eds, eg, zzz]; exact h.glen
    dok := by
     rw [eds]
     intro z hz
     rcases z13 hz with hz | rfl
     · exact h.dok z hz
     · exact ⟨hI, hdok.2.1, hdok.2.2⟩
    dr := by
     rw [eds]
     refine R.all (zyo (fun m a ha => ?_) dj) (zjl hE dj)
     obtain ⟨z, hz, hzb⟩ := h.dr m a ha
     refine ⟨_, hset _ z hz, fun ho => ?_⟩
     by_cases e : a.draft = o.draft
     · rw [e, hat1] at hz
       cases hz
       have := hzb ho
       rw [F.busy] at this
       have := (h.wt.jok m a ha).2.1
       omega
     · rw [if_neg e]; exact hzb ho
    mark := by
     rw [eLg]
     exact R.all (zyo (fun m a ha => h.mark m a ha) mj) (zjk hE mj)
    mlen := by rw [eLg, v1', v2']; have := h.mlen; omega
    mid := by rw [eLg, v2']; intro m hm; have := h.mid m hm; omega }
 · rw [eb]
   obtain ⟨l1, h1, h2, h3⟩ := F.bins
   rw [h3, zld t h2.srt]
   have hnd := (zlu (zcj F.plan).2.1).1
   rw [← hjneeds] at hnd
   obtain ⟨l2, g1, -, g3⟩ := zh4 h.binv.srt (zjb hnd) F.lie
   rw [h1] at g1
   cases g1
   rw [g3]
   omega
end
end
section
set_option maxRecDepth 1000000
abbrev blW : List (List U) := [[.n 3, .n 2, .n 10, .l 2 [[.n 1, .n 3], [.n 2, .n 1]], .n 2, .n 3, .n 5], [.n 4, .n 1, .n 7, .l 2 [[.n 3, .n 2]], .n 0, .n 0, .n 3]]
abbrev byW (a b c : Int) : List (List U) := [[.n 1, .n a, .n 1, .n 1000], [.n b, .n 1, .n c, .n 0]]
abbrev caW (a b c : Int) : V := .a [.i 4, .l 7 blW, .i 2, .l 4 (byW a b c), .i 3, .i 200, .i 1, .i 500]
def w1 (which : Int) : Int := zyu .i64 (1 + zyu .i64 (BitVec.toNat (BitVec.ofInt 64 which &&& (BitVec.ofInt 64 1)) : Int))
def w2 (which : Int) : Int := zyu .i64 (1 + zyu .i64 (BitVec.toNat (BitVec.ofInt 64 (Int.fdiv which (2 ^ (1))) &&& (BitVec.ofInt 64 1)) : Int))
def w3 (which : Int) : Int := zyu .i64 (BitVec.toNat (BitVec.ofInt 64 (Int.fdiv which (2 ^ (2))) &&& (BitVec.ofInt 64 1)) : Int)
theorem bit01 (x : BitVec 64) : (x &&& BitVec.ofInt 64 1).toNat = 0 ∨ (x &&& BitVec.ofInt 64 1).toNat = 1 := by
 rw [z3r, show (BitVec.ofInt 64 1).toNat = 1 from rfl, Nat.and_one_is_mod]
 omega
theorem w1_12 (w : Int) : w1 w = 1 ∨ w1 w = 2 := by
 unfold w1
 rcases bit01 (BitVec.ofInt 64 w) with h | h <;> rw [h]
 · exact .inl rfl
 · exact .inr rfl
theorem w2_12 (w : Int) : w2 w = 1 ∨ w2 w = 2 := by
 unfold w2
 rcases bit01 (BitVec.ofInt 64 (Int.fdiv w (2 ^ (1)))) with h | h <;> rw [h]
 · exact .inl rfl
 · exact .inr rfl
theorem w3_01 (w : Int) : w3 w = 0 ∨ w3 w = 1 := by
 unfold w3
 rcases bit01 (BitVec.ofInt 64 (Int.fdiv w (2 ^ (2)))) with h | h <;> rw [h]
 · exact .inl rfl
 · exact .inr rfl
theorem cat_S (w : Int) : PRun Tryz.prog 69 [] [caW (w1 w) (w2 w) (w3 w)] fun x m => x = .i 0 ∧ m = [] := by
 have h1 := w1_12 w
 have h2 := w2_12 w
 have h3 := w3_01 w
 exact catS_S (by omega) (by omega) (by omega)
def bl0 : List Bl := [⟨3, 2, 10, [(1, 3), (2, 1)], 2, 3, 5⟩, ⟨4, 1, 7, [(3, 2)], 0, 0, 3⟩]
def ktW (w : Int) : Kt := ⟨4, bl0, 2, [⟨1, w1 w, 1, 1000⟩, ⟨w2 w, 1, w3 w, 0⟩], 3⟩
def dl0 : List Dr := [⟨0, 1, 0, 1, 1, 0, 0, -1, 0⟩, ⟨0, 2, 0, 1, 2, 0, 0, -1, 0⟩, ⟨0, 1, 0, 1, 2, 3, 0, 4, 0⟩, ⟨0, 2, 0, 1, 1, 0, 8, -1, 0⟩, ⟨0, 1, 0, 2, 1, 0, 0, -1, 0⟩]
def ds0 : List Dr := [⟨1, 1, 0, 1, 1, 0, 0, -1, 0⟩, ⟨2, 2, 0, 1, 2, 0, 0, -1, 0⟩, ⟨3, 1, 0, 1, 2, 3, 0, 4, 0⟩, ⟨4, 2, 0, 1, 1, 0, 8, -1, 0⟩, ⟨5, 1, 0, 2, 1, 0, 0, -1, 0⟩]
abbrev ln0 (w : Int) : List Sd := newL (w1 w) 1 1 (w3 w)
def wk0 (w : Int) : Wk := ⟨p0, b0, [], 1, [], ds0, 5, ln0 w, []⟩
theorem nilJ_S {s : Nat} : PRun Tryz.prog 72 [] [.nl s] fun x m => x = .nl 16 ∧ m = [] := by
 have hV : ((fun (x : V) (m : Mem) => x = .nl 16 ∧ m = []) (.nl 16) []) = runS Tryz.prog ⟨[], [], [], [], [], true, 64, KN.no, true, SP.no⟩ 2 .out 72 [] [] (zf5 Tryz.f72) (retG Tryz.prog true Tryz.f72 (endS true ([] : Mem).length fun x m => x = .nl 16 ∧ m = [])) (zf1 Tryz.prog true Tryz.f72 [.nl s]) [] := by kernel_rfl
 exact zok mixJb (gc := true) (H := ⟨[], [], [], [], [], true, 64, KN.no, true, SP.no⟩) (n := 2) Tryz.func72 (by kernel_rfl) (c := zf5 Tryz.f72) (by kernel_rfl) (hV ▸ ⟨rfl, rfl⟩)
abbrev zx9 (w : Int) : List V := [.i 4, .l 7 blW, .i 2, .l 4 (byW (w1 w) (w2 w) (w3 w)), .i 3, .i 200, .i 1, .i 500]
theorem newW_S0 (w : Int) : PRun Tryz.prog 27 [pC p0 562, bK b0, qO [] 256 1, .c [.nl 4, .nm]] [.a (zx9 w), .r 0 0, .r 1 0, .r 2 0, .r 3 0] fun x m => x = .t [.r 4 0, .i 0] ∧ m = [pC p0 562, bK b0, qO [] 256 1, .c [.nl 4, .nm], .c (zx9 w ++ [.r 0 0, .r 1 0, .r 2 0, .r 3 0, .r 5 0, .r 6 0, .nl 16]), .c [.nl 13, .i 0], .o (bayC (zx9 w))] := by
 have h1 := w1_12 w
 have h3 := w3_01 w
 refine S27 (X1 := Ob.of (zqw (ln0 w))) (zkr ⟨by decide, by decide, rfl, S21 ((cat_S w).mono ?_), rfl, rfl⟩)
 rintro _ _ ⟨rfl, rfl⟩
 rw [zaw]
 exact cNe (fun h => absurd rfl h) fun _ => ⟨Ob.of (zqw (ln0 w)), bload_S (by omega) (by omega), nilJ_S, rfl, rfl⟩
abbrev R5 : V := .t [.a [.r 0 0, .r 1 0, .r 2 0, .r 3 0, .r 4 0], .u (.b true)]
abbrev M0w (w : Int) : Mem := [.c ((zx9 w ++ [.r 1 0, .r 2 0, .r 3 0, .r 4 0, .r 5 0, .r 6 0]) ++ [.nl 16]), pC p0 562, bK b0, qO [] 256 1, .c [.nl 4, .nm], drB ds0 5, .o (bayC (zx9 w))]
theorem post_IId {F : Int → Int → List (List U) → Int → Prop} {e e' g : Int} {ds : List Dr} : post [.I, .I] [.c [.l 13, .i .i64]] F (.t [.i e, .i e']) [drB ds g] = F e e' (ds.map eD) g := rfl
theorem zx1 : DNum ds0 := fun i d h => by
 match i, h with
 | 0, h => cases h; rfl
 | 1, h => cases h; rfl
 | 2, h => cases h; rfl
 | 3, h => cases h; rfl
 | 4, h => cases h; rfl
 | i + 5, h => simp [ds0] at h
theorem begun0_S (w : Int) : PRun Tryz.prog 7 [] [.i w] fun x m => x = R5 ∧ m = M0w w := by
 refine S7 (S12 ?_)
 refine ⟨by omega, by omega, ?_⟩
 refine ⟨by unfold zan; simp, by unfold zan; simp, by unfold zan; simp, by unfold zan; simp, by unfold zan; simp, by unfold zan; simp, ?_⟩
 refine ⟨rfl, rfl, rfl, newW_S0 w, ?_⟩
 refine ⟨fun x q1 q2 q3 q4 q5 l g => ∃ i : Nat, x = (i : Int) ∧ i ≤ 5 ∧ l = (ds0.take i).map eD ∧ g = (i : Int), fun x _ _ _ _ _ _ _ => (5 - x).toNat, ⟨0, rfl, by omega, rfl, rfl⟩, ?_⟩
 rintro _ q1 q2 q3 q4 q5 _ _ ⟨i, rfl, hi, rfl, rfl⟩
 refine cIf (fun hlt => ?_) fun hge => ?_
 · have hlt : i < 5 := by
    have : (i : Int) < 5 := by simpa using hlt
    omega
   have e1 : zyu .i64 ((i : Int) + 1) = ((i + 1 : Nat) : Int) := by rw [w64 (by omega) (by omega)]; omega
   rw [e1]
   have hnum : DNum (ds0.take i) := fun k d h => zx1 k d (by
    rw [z0l] at h
    split at h
    · exact h
    · cases h)
   have hlen : (ds0.take i).length = i := by rw [zz1]; show min i 5 = i; omega
   have key : ∀ d : Dr, dl0[i]? = some d → isD d = true → d.busy = 0 → ds0.take i ++ [{ d with id := (i : Int) + 1 }] = ds0.take (i + 1) → ∀ {F : Int → Int → List (List U) → Int → Prop}, F ((i + 1 : Nat) : Int) 0 ((ds0.take (i + 1)).map eD) ((i + 1 : Nat) : Int) → PRun Tryz.prog 28 [drB (ds0.take i) (i : Int)] [.r 0 0, rV d] (post [.I, .I] [.c [.l 13, .i .i64]] F) := fun d hd h1 h2 h3 F hF => by
    refine add_D hnum (by rw [hlen]) (by omega) (fun h => ?_) (fun h => ?_) fun _ _ _ => ?_
    · rcases h with h | h
      · rw [h1] at h; cases h
      · exact absurd h2 h
    · exact absurd (by unfold zvy; rw [hlen]; omega) h
    · rw [h3, post_IId]
      have e : ((i : Int) + 1) = ((i + 1 : Nat) : Int) := by omega
      rw [e]
      exact hF
   obtain ⟨d, hd, h1, h2, h3⟩ : ∃ d, dl0[i]? = some d ∧ isD d = true ∧ d.busy = 0 ∧ ds0.take i ++ [{ d with id := (i : Int) + 1 }] = ds0.take (i + 1) := by
    have : i = 0 ∨ i = 1 ∨ i = 2 ∨ i = 3 ∨ i = 4 := by omega
    rcases this with rfl | rfl | rfl | rfl | rfl
    · exact ⟨_, rfl, by decide, rfl, rfl⟩
    · exact ⟨_, rfl, by decide, rfl, rfl⟩
    · exact ⟨_, rfl, by decide, rfl, rfl⟩
    · exact ⟨_, rfl, by decide, rfl, rfl⟩
    · exact ⟨_, rfl, by decide, rfl, rfl⟩
   rw [zah (r := dRw d) (by omega) (by show (dl0.map dRw)[((i : Int)).toNat]? = _; rw [zzm, zy5, hd]; rfl)]
   simp only [dRw, ug0, ugs, zbs]
   refine key d hd h1 h2 h3 ?_
   exact cNe (fun h => absurd rfl h) fun _ => cNe (fun h => absurd rfl h) fun _ => ⟨⟨i + 1, by first | trivial | rfl, by omega, by first | trivial | rfl, by first | trivial | rfl⟩, by omega⟩
 · have : i = 5 := by
    have hge : ¬ (i : Int) < 5 := by simpa using hge
    omega
   subst this
   exact ⟨rfl, rfl⟩
theorem zla {D : Fz} {ρ : List Loc} {b s : Nat} {L : Loc} (hb : ρ[b]? = some L) (h1 : L.a = none) (h2 : L.n = 0) (h3 : L.c = 0) : ∀ {l : List V} {vs : List Value}, RpC D ρ vs (l ++ [.nl s]) → RpC D ρ vs (l ++ [.w b])
 | [], _, h => by
   cases h with
   | cons a _ c =>
     cases a
     have := Rp.w (D := D) hb
     rw [h1, h2, h3] at this
     exact .cons this (fun _ _ _ h => nomatch h) c
 | x :: l, _, h => by
   cases h with
   | cons a k c => exact .cons a k (zla hb h1 h2 h3 c)
   | n e c => exact .n e (zla hb h1 h2 h3 c)
theorem M0w_S {D : Fz} {ρ : List Loc} {chs C : List zac} {h : zaf} {w : Int} (M : SAt D ρ (M0w w) chs C h) : ∃ chs', SAt D (ρ ++ [⟨0, none, 0, 0, none⟩]) (W8 (ktW w) (wk0 w)) chs' C h := by
 have l1 := M.len
 have l2 := M.lch
 match ρ, chs, l1, l2 with
 | [L0, L1, L2, L3, L4, L5, L6], [c0, c1, c2, c3, c4, c5, c6], _, _ =>
   have e := fun i L ab ch a b c => (M.ent i L ab ch a b c).mono (.refl D) [⟨0, none, 0, 0, none⟩]
   refine ⟨[c0, c1, c2, c3, c4, c5, c6, []], rfl, rfl, fun i L ab ch q1 q2 q3 => ?_, M.st.perm (by simp)⟩
   match i, q1, q2, q3 with
   | 0, q1, q2, q3 =>
     have e0 := e 0 L0 _ c0 rfl rfl rfl
     cases q1; cases q2; cases q3
     cases e0 with
     | c hc => exact .c (zla (b := 7) (L := ⟨0, none, 0, 0, none⟩) rfl rfl rfl rfl hc)
   | 1, q1, q2, q3 => cases q1; cases q2; cases q3; exact e 1 L1 _ c1 rfl rfl rfl
   | 2, q1, q2, q3 => cases q1; cases q2; cases q3; exact e 2 L2 _ c2 rfl rfl rfl
   | 3, q1, q2, q3 => cases q1; cases q2; cases q3; exact e 3 L3 _ c3 rfl rfl rfl
   | 4, q1, q2, q3 =>
     have e4 := e 4 L4 _ c4 rfl rfl rfl
     cases q1; cases q2; cases q3
     refine .o ⟨[.c [.nl 4, .nm]], [L4], [c4], .inl ⟨rfl, rfl⟩, rfl, rfl, ⟨L4, rfl, rfl⟩, by simp, fun i L ab ch q1 q2 q3 => ?_⟩
     cases i with
     | succ i => simp at q1
     | zero =>
       cases q1; cases q2; cases q3
       cases e4 with
       | c hc =>
         cases hc with
         | cons a1 _ hc =>
           cases hc with
           | cons a2 _ hc =>
             cases hc
             cases a1; cases a2
             exact .c (.cons .nl (fun _ _ _ h => nomatch h) (.cons .nm (fun _ _ _ h => nomatch h) .nil))
   | 5, q1, q2, q3 => cases q1; cases q2; cases q3; exact e 5 L5 _ c5 rfl rfl rfl
   | 6, q1, q2, q3 => cases q1; cases q2; cases q3; exact e 6 L6 _ c6 rfl rfl rfl
   | 7, q1, q2, q3 => cases q1; cases q2; cases q3; exact .w (.nil none) rfl
   | i + 8, q1, q2, q3 => simp at q2
theorem zyi (w : Int) : PRun Tryz.prog 7 [] [.i w] fun x m => x = R5 ∧ m = W8 (ktW w) (wk0 w) := by
 intro D ρ chs C h vs M F
 have hρ : ρ = [] := z0p M.len
 subst hρ
 refine (begun0_S w D [] chs C h vs M F).mono ?_
 rintro v h2 ⟨D2, s, cs, x, m', le, M2, hv, rfl, rfl⟩
 obtain ⟨cs', M3⟩ := M0w_S M2
 refine ⟨D2, s ++ [⟨0, none, 0, 0, none⟩], cs', _, _, le, by simpa using M3, ?_, rfl, rfl⟩
 have := hv.mono (.refl D2) (s := [⟨0, none, 0, 0, none⟩])
 simpa using this
end
def bgR (args : List V) (m : Mem) : V × Mem :=
 match args with
 | [.u (.i _ w)] => (R5, W8 (ktW w) (wk0 w))
 | _ => (.t [], [])
section
set_option maxRecDepth 100000
def offT (w : Int) (T : List Tm) : List Tm := T.filter fun t => t.2.2 != w
theorem zkq {α : Type} {P : α → Bool} {l : List α} (h : ∀ x ∈ l, P x = true) : l.filter P = l := z16.2 h
theorem TimF.off {T : List Tm} {w : Int} (h : TimF T w T') (hn : (T.map fun t => t.2.2).Nodup) : T'.Perm (offT w T) := by
 unfold offT
 rcases h with ⟨t, hp, ht⟩ | ⟨ha, rfl⟩
 · have h1 := hp.symm.filter fun t => t.2.2 != w
   have h4 : T'.filter (fun t => t.2.2 != w) = T' := zkq fun x hx => by
    have h2 := (hp.map fun t => t.2.2).nodup_iff.2 hn
    have h3 := (z0q.1 h2).1
    simp only [bne_iff_ne, ne_eq]
    intro e
    exact h3 (zzu.2 ⟨x, hx, e.trans ht.symm⟩)
   rw [z06 (by simp [ht]), h4] at h1
   exact h1.symm
 · rw [zkq fun x hx => by simpa using ha x hx]
def popT (now : Int) : List Tm → Option (Tm × List Tm)
 | [] => none
 | t :: T => if t.1 ≤ now then some (t, T) else none
theorem srtT_min {L L' : List Tm} (hp : (t :: L').Perm L) (hm : ∀ x ∈ L, leT t x) (hd : DifT L) : zfj L = t :: zfj L' := by
 refine zh6 ((zap L).trans (hp.symm.trans ((zap L').symm.cons t))) (zb4 L) (zz5.2 ⟨fun y hy => hm y (hp.mem_iff.1 (zzo _ ((zap L').mem_iff.1 hy))), zb4 L'⟩) (DifT.perm (zap L).symm hd)
abbrev nT (s : Wk) : Wk := { s with T := zfj s.T }
section
variable {C : Kt} {s s' : Wk} {now id : Int}
theorem W9_nT : W9 C (nT s) = W9 C s := by
 show [mkWk C 8, pC s.p 562, bK s.b, .o (Ob.of (qS (zfj s.T) 256 s.next)), .o (Ob.of (ze4 s.Lg)), drB s.ds s.g, bO s.l, .x, .w 48 16 (s.js.map za6)] = _
 rw [qO.perm (zap s.T)]
theorem WT.whats (h : WT C s) : (s.T.map fun t => t.2.2).Nodup := by
 have h1 : (s.T.map fun t => t.2.2) = (s.T.map tp).map Prod.snd := by rw [zz9]; rfl
 rw [h1]
 refine ((h.tim.map Prod.snd).nodup_iff).2 ?_
 have h2 : (zcl Pq fq s.js).map Prod.snd = (zcl Pq (·.id) s.js).map fun n => 2 * n := by unfold zcl; rw [zz9, zz9]; rfl
 rw [h2]
 exact (List.Pairwise.map (R := (· ≠ ·)) (S := (· ≠ ·)) (fun n => 2 * n) (fun a b hab e => hab (by omega)) (h.nd Pq))
theorem WT.nT (h : WT C s) : WT C (nT s) where
 l4 := h.l4
 slot := h.slot
 room := h.room
 run := h.run
 wait := h.wait
 tim := ((zap s.T).map tp).trans h.tim
 ids := (DifT.perm (zap s.T).symm h.ids)
 lt t ht := h.lt t ((zap s.T).mem_iff.1 ht)
 jok := h.jok
 jlen := h.jlen
theorem WV.nT {M : Nat} {N : Int} (h : WV C M N s) : WV C M N (nT s) :=
 ⟨h.wt.nT, h.pinv, h.plen, h.binv, h.blen, h.nx, h.dnum, h.dlen, h.glen, h.dok, h.dr, h.mark, h.mlen, h.mid⟩
def runG (s : Wk) (i : Nat) (j : Jb) (now : Int) : Wk := { s with T := insT (now + j.left, s.next, 2 * j.id) s.T, next := s.next + 1, js := s.js.set i (jDo 1 j now) }
def hasJ (id : Int) (x : Sd) : Bool := x.run.contains id || x.wait.contains id
def lvG (s : Wk) (id now : Int) : Wk :=
 match s.l.findIdx? (hasJ id) with
 | none => { s with T := offT (2 * id) s.T }
 | some k => match s.l[k]? with
   | none => { s with T := offT (2 * id) s.T }
   | some x => match at1 s.js (lvS x id).2 with
     | none => { s with T := offT (2 * id) s.T, l := s.l.set k (lvS x id).1 }
     | some j => runG { s with T := offT (2 * id) s.T, l := s.l.set k (lvS x id).1 } ((lvS x id).2 - 1).toNat j now
theorem hasJ_iff : hasJ id x = true ↔ id ∈ x.run ∨ id ∈ x.wait := by simp [hasJ]
theorem lvs_G (hn : (s.T.map fun t => t.2.2).Nodup) (hd : DifT s.T) (hone : ∀ (k m : Nat) (x y : Sd), s.l[k]? = some x → s.l[m]? = some y → (id ∈ x.run ∨ id ∈ x.wait) → (id ∈ y.run ∨ id ∈ y.wait) → k = m) (h : Lvs s id now s') : nT s' = lvG (nT s) id now := by
 have off : ∀ {T' : List Tm}, TimF s.T (2 * id) T' → zfj T' = offT (2 * id) (zfj s.T) := fun hT => by
  have hp := hT.off hn
  rw [zvd hp (DifT.perm hp.symm (hd.sublist List.filter_sublist))]
  exact zpr hd
 have find : ∀ {k : Nat} {x : Sd}, s.l[k]? = some x → (id ∈ x.run ∨ id ∈ x.wait) → s.l.findIdx? (hasJ id) = some k := fun {k x} hk hin => by
  have hlt := (zyz.1 hk).1
  rw [List.findIdx?_eq_some_iff_getElem]
  refine ⟨hlt, ?_, fun m hm => ?_⟩
  · have := (zyz.1 hk).2
    rw [this]; exact hasJ_iff.2 hin
  · have hm2 : m < s.l.length := by omega
    cases e : hasJ id s.l[m] with
    | false => simp
    | true => exact absurd (hone k m x s.l[m] hk (zy0 hm2) hin (hasJ_iff.1 e)) (by omega)
 unfold lvG
 cases h with
 | no hT ha =>
   have : s.l.findIdx? (hasJ id) = none := List.findIdx?_eq_none_iff.2 fun x hx => by
    have := ha x hx
    cases e : hasJ id x with
    | false => rfl
    | true => exact absurd (hasJ_iff.1 e) (by simp [this.1, this.2])
   show { s with T := zfj _ } = match s.l.findIdx? (hasJ id) with | none => _ | some k => _
   rw [this, off hT]
 | one hT hk hin h0 =>
   rename_i T' k x
   show { s with T := zfj T', l := _ } = match s.l.findIdx? (hasJ id) with | none => _ | some k => _
   rw [find hk hin]
   show _ = match s.l[k]? with | none => _ | some x => _
   rw [hk]
   simp only
   rw [h0, show at1 s.js 0 = none from rfl, off hT]
 | two hT hk hin h0 hj hji he =>
   rename_i T' k x i j
   show { s with T := insT _ (zfj T'), l := _, next := _, js := _ } = match s.l.findIdx? (hasJ id) with | none => _ | some k => _
   rw [find hk hin]
   show _ = match s.l[k]? with | none => _ | some x => _
   rw [hk]
   simp only
   rw [h0, zal hj rfl, off hT]
   show _ = runG _ ((i : Int) + 1 - 1).toNat j now
   rw [show ((i : Int) + 1 - 1).toNat = i by omega]
   rfl
def askG (s : Wk) (k : Nat) (x : Sd) (i : Nat) (j : Jb) (now : Int) : Wk :=
 if (x.run.length : Int) < x.n then runG { s with l := s.l.set k (zqx x j.id) } i j now else { s with l := s.l.set k (zqx x j.id) }
theorem asks_G (h : Asks s k x i j now s') : nT s' = askG (nT s) k x i j now := by
 unfold askG
 cases h with
 | run h => rw [if_pos h]; rfl
 | wait h => rw [if_neg h]
theorem WT.one (h : WT C s) (hg : s.js[i]? = some j) (k m : Nat) (x y : Sd) (hk : s.l[k]? = some x) (hm : s.l[m]? = some y) (hx : j.id ∈ x.run ∨ j.id ∈ x.wait) (hy : j.id ∈ y.run ∨ j.id ∈ y.wait) : k = m := by
 have a : ∀ {k : Nat} {x : Sd}, s.l[k]? = some x → (j.id ∈ x.run ∨ j.id ∈ x.wait) → jAt j = (k : Int) := fun hk hx => hx.elim (fun h1 => ((h.runs hk hg).1 h1).2) fun h1 => ((h.waits hk hg).1 h1).2
 have := a hk hx
 have := a hm hy
 omega
end
end
section
set_option maxRecDepth 100000
def setJ (s : Wk) (id : Int) (j : Jb) : Wk := { s with js := s.js.set (id - 1).toNat j }
def pauG (s : Wk) (now id : Int) : Int × Wk := if ztj s 2 now id ≠ 0 then (ztj s 2 now id, s) else match at1 s.js id with
 | some j => (0, lvG (setJ s id (jDo 2 j now)) id now)
 | none => (3, s)
def markG (s : Wk) (now id st : Int) : Wk := { s with Lg := zml s.Lg (now, 1, id, st) }
def firG (s : Wk) (now id : Int) : Int × Wk := if ztj s 4 now id ≠ 0 then (ztj s 4 now id, s) else match at1 s.js id with
 | some j => (0, markG (lvG (setJ s id (jDo 4 j now)) id now) now id 4)
 | none => (3, s)
def resG (s : Wk) (now id : Int) : Int × Wk := if zv1 s now id ≠ 0 then (zv1 s now id, s) else match at1 s.js id with
 | some j => (match s.l[(jAt j).toNat]? with
   | some x => (0, askG (setJ s id (jDo 3 j 0)) (jAt j).toNat x (id - 1).toNat (jDo 3 j 0) now)
   | none => (3, s))
 | none => (3, s)
def canG (C : Kt) (s : Wk) (now id : Int) : Int × Wk := if zur s now id ≠ 0 then (zur s now id, s) else match at1 s.js id with
 | some j => (0, markG (lvG (canW C s (id - 1).toNat j) id now) now id 6)
 | none => (3, s)
def givG (C : Kt) (s : Wk) (j : Jb) (d : Dr) (b : Bl) : Int × Wk :=
 if j.kind = 1 then (if 1125899906842624 < tyQ b.makes s.b + b.per * j.runs then (5, s) else (0, { s with b := zez (bin ⟨j.own, j.div, zbi C j, 1⟩ b.makes) (zam (bin ⟨j.own, j.div, zbi C j, 1⟩ b.makes) (rmv (vK j.id (zbi C j)) s.b) + b.per * j.runs) (rmv (vK j.id (zbi C j)) s.b) }))
 else if j.kind = 2 then (0, { s with ds := if zcp d j.runs 0 = 0 then s.ds.set (j.draft - 1).toNat (ze6 d j.runs 0) else s.ds })
 else if j.kind = 3 then (0, { s with ds := if zcp d 0 j.runs = 0 then s.ds.set (j.draft - 1).toNat (ze6 d 0 j.runs) else s.ds })
 else if zx6 s.ds s.g d j.copies j.runs ≠ 0 then (zx6 s.ds s.g d j.copies j.runs, s) else (0, { s with ds := s.ds ++ cpD d j.runs s.g j.copies.toNat, g := s.g + j.copies })
def zuo (C : Kt) (s : Wk) (id : Int) : Int × Wk := match at1 s.js id with
 | none => (3, s)
 | some j => if jE 5 j 0 ≠ 0 then (jE 5 j 0, s) else match at1 s.ds j.draft with
   | none => (3, s)
   | some d => match at1 C.bl d.blue with
     | none => (3, s)
     | some b => match givG C s j d b with
       | (e, t) => if e ≠ 0 then (e, s) else (0, { t with ds := zdw t.ds j.draft id 0, js := s.js.set (id - 1).toNat (jDo 5 j 0) })
noncomputable def zsk (C : Kt) (s : Wk) (now : Int) (o : Od) : Int × Int × Wk := if insE C s now o ≠ 0 then (0, insE C s now o, s) else
 match at1 C.bays o.bay, at1 s.ds o.draft with
 | some y, some d => (match at1 C.bl d.blue, s.l[(2 * (o.bay - 1) + (if o.kind = 1 then 0 else 1)).toNat]? with
   | some b, some x =>
     let j := zd9 y b d o (zjw s.js.length o)
     match zb5 ⟨o.own, o.div, y.place, 1⟩ j.needs s.b with
     | some l1 => ((s.js.length : Int) + 1, 0, askG (insW s (o.draft - 1).toNat d j (movP o.who 0 j.fee s.p) (zie (vK j.id y.place) j.needs l1)) (2 * (o.bay - 1) + (if o.kind = 1 then 0 else 1)).toNat x s.js.length j now)
     | none => (0, 3, s)
   | _, _ => (0, 3, s))
 | _, _ => (0, 3, s)
def latG : Nat → Wk → Int → Wk
 | 0, s, _ => s
 | n + 1, s, now => match popT now s.T with
   | none => s
   | some (t, T') => latG n (firG { s with T := T' } t.1 (t.2.2 / 2)).2 now
def byN (n : Int) : Int := (BitVec.toNat (BitVec.ofInt 64 n &&& BitVec.ofInt 64 255) : Int)
noncomputable def zs5 (C : Kt) (s : Wk) (now kind id an : Int) (o : Od) : (Int × Int × Int) × Wk :=
 if kind = 1 then ((now, (zsk C s now o).1, (zsk C s now o).2.1), (zsk C s now o).2.2)
 else if kind = 2 then ((now, 0, (pauG s now id).1), (pauG s now id).2)
 else if kind = 3 then ((now, 0, (resG s now id).1), (resG s now id).2)
 else if kind = 4 then ((now, 0, (canG C s now id).1), (canG C s now id).2)
 else if kind = 5 then ((now, 0, (zuo C s id).1), (zuo C s id).2)
 else ((now + byN an, 0, 0), latG 256 s (now + byN an))
section
variable {C : Kt} {s s' : Wk} {now id e : Int} {i : Nat} {j : Jb}
theorem pauG_er (h : ztj s 2 now id = e) (he : e ≠ 0) : pauG (nT s) now id = (e, nT s) := by
 have h : ztj (nT s) 2 now id = e := h
 unfold pauG; rw [h, if_pos he]
theorem pauG_ok (hW : WT C s) (hg : s.js[i]? = some j) (hid : id = (i : Int) + 1) (he : jE 2 j now = 0) (h : Lvs { s with js := s.js.set i (jDo 2 j now) } id now s') : pauG (nT s) now id = (0, nT s') := by
 have h1 : ztj (nT s) 2 now id = 0 := by have := zil (s := s) (w := 2) (now := now) hg hid; rw [he] at this; exact this
 have h2 : at1 (nT s).js id = some j := zal hg hid
 unfold pauG
 rw [h1, if_neg (fun h => h rfl), h2]
 simp only
 have e1 : id = j.id := by have := (hW.jok i j hg).2.1; omega
 rw [lvs_G (s := { s with js := s.js.set i (jDo 2 j now) }) hW.whats hW.ids (fun k m x y hk hm hx hy => by rw [e1] at hx hy; exact hW.one hg k m x y hk hm hx hy) h]
 unfold setJ
 rw [show (id - 1).toNat = i by omega]
theorem firG_ok (hW : WT C s) (hg : s.js[i]? = some j) (hid : id = (i : Int) + 1) (he : jE 4 j now = 0) {T0 : List Tm} (hT0 : (T0.map fun t => t.2.2).Nodup) (hd0 : DifT T0) (h : Lvs { s with T := T0, js := s.js.set i (jDo 4 j now) } id now s') : firG (nT { s with T := T0 }) now id = (0, nT { s' with Lg := zml s'.Lg (now, 1, id, 4) }) := by
 have h1 : ztj (nT { s with T := T0 }) 4 now id = 0 := by have := zil (s := s) (w := 4) (now := now) hg hid; rw [he] at this; exact this
 have h2 : at1 (nT { s with T := T0 }).js id = some j := zal hg hid
 unfold firG
 rw [h1, if_neg (fun h => h rfl), h2]
 simp only
 have e1 : id = j.id := by have := (hW.jok i j hg).2.1; omega
 have h3 := lvs_G (s := { s with T := T0, js := s.js.set i (jDo 4 j now) }) hT0 hd0 (fun k m x y hk hm hx hy => by rw [e1] at hx hy; exact hW.one hg k m x y hk hm hx hy) h
 unfold setJ
 rw [show (id - 1).toNat = i by omega]
 show (0, markG (lvG (nT { s with T := T0, js := s.js.set i (jDo 4 j now) }) id now) now id 4) = _
 rw [← h3]
 rfl
theorem resG_er (h : zv1 s now id = e) (he : e ≠ 0) : resG (nT s) now id = (e, nT s) := by
 have h : zv1 (nT s) now id = e := h
 unfold resG; rw [h, if_pos he]
theorem resG_ok (hg : s.js[i]? = some j) (hid : id = (i : Int) + 1) (he : jE 3 j 0 = 0) (ht : 0 ≤ now ∧ now ≤ 1099511627776) (hk : jAt j = (k : Int)) (hx : s.l[k]? = some x) (hr : zcm x = true)
 (h : Asks { s with js := s.js.set i (jDo 3 j 0) } k x i (jDo 3 j 0) now s') : resG (nT s) now id = (0, nT s') := by
 have ek : (jAt j).toNat = k := by omega
 have h1 : zv1 (nT s) now id = 0 := by
  have := zfp (s := s) (now := now) hg hid
  rw [if_neg (fun h => h he), if_neg (by rw [inJ_iff.2 ht]; simp), ek, hx] at this
  simp only at this
  rw [if_pos hr] at this
  exact this
 have h2 : at1 (nT s).js id = some j := zal hg hid
 unfold resG
 rw [h1, if_neg (fun h => h rfl), h2]
 simp only
 rw [ek, show (nT s).l[k]? = some x from hx]
 simp only
 rw [asks_G h]
 unfold setJ
 rw [show (id - 1).toNat = i by omega]
theorem canG_er (h : zur s now id = e) (he : e ≠ 0) : canG C (nT s) now id = (e, nT s) := by
 have h : zur (nT s) now id = e := h
 unfold canG; rw [h, if_pos he]
theorem canG_ok (hW : WT C s) (hg : s.js[i]? = some j) (hid : id = (i : Int) + 1) (he : jE 6 j 0 = 0) (ht : 0 ≤ now ∧ now ≤ 1099511627776) (h : Lvs (canW C s i j) id now s') : canG C (nT s) now id = (0, nT { s' with Lg := zml s'.Lg (now, 1, id, 6) }) := by
 have h1 : zur (nT s) now id = 0 := by show zur s now id = 0; unfold zur; rw [zal hg hid]; simp only; rw [if_neg (by rw [inJ_iff.2 ht]; simp)]; exact he
 have h2 : at1 (nT s).js id = some j := zal hg hid
 unfold canG
 rw [h1, if_neg (fun h => h rfl), h2]
 simp only
 have e1 : id = j.id := by have := (hW.jok i j hg).2.1; omega
 have h3 := lvs_G (s := canW C s i j) hW.whats hW.ids (fun k m x y hk hm hx hy => by rw [e1] at hx hy; exact hW.one hg k m x y hk hm hx hy) h
 rw [show (id - 1).toNat = i by omega]
 show (0, markG (lvG (nT (canW C s i j)) id now) now id 6) = _
 rw [← h3]
 rfl
theorem zxv (hk : 1 ≤ j.kind ∧ j.kind ≤ 4) (h : Gives C s j d b e s') : givG C (nT s) j d b = (e, nT s') := by
 unfold givG
 cases h with
 | over h1 h2 => rw [if_pos h1, if_pos h2]
 | made h1 h2 h3 => rw [if_pos h1, if_neg (by show ¬ _ < tyQ b.makes s.b + _; omega)]
 | me h1 => rw [if_neg (by omega), if_pos h1]
 | te h1 => rw [if_neg (by omega), if_neg (by omega), if_pos h1]
 | full h1 h2 => rw [if_neg (by omega), if_neg (by omega), if_neg (by omega), if_pos h2]
 | cop h1 h2 => rw [if_neg (by omega), if_neg (by omega), if_neg (by omega), if_neg (fun h => h h2)]
theorem zx3 (hok : ∀ (i : Nat) (j : Jb), s.js[i]? = some j → 1 ≤ j.kind ∧ j.kind ≤ 4) (he : e ≠ 0) (h : (at1 s.js id = none ∧ e = 3) ∨ ∃ (i : Nat) (j : Jb), s.js[i]? = some j ∧ id = (i : Int) + 1 ∧ ((jE 5 j 0 ≠ 0 ∧ e = jE 5 j 0) ∨ ∃ d b, jE 5 j 0 = 0 ∧ at1 s.ds j.draft = some d ∧ at1 C.bl d.blue = some b ∧ Gives C s j d b e s)) : zuo C (nT s) id = (e, nT s) := by
 unfold zuo
 rcases h with ⟨h1, rfl⟩ | ⟨i, j, hg, hid, h | ⟨d, b, h0, hd, hb, hG⟩⟩
 · rw [show at1 (nT s).js id = none from h1]
 · rw [show at1 (nT s).js id = some j from zal hg hid]
   simp only
   rw [if_pos h.1, h.2]
 · rw [show at1 (nT s).js id = some j from zal hg hid]
   simp only
   rw [if_neg (fun h => h h0), show at1 (nT s).ds j.draft = some d from hd]
   simp only
   rw [hb]
   simp only
   rw [zxv (hok i j hg) hG]
   rw [if_pos he]
theorem zx2 (hok : 1 ≤ j.kind ∧ j.kind ≤ 4) (hg : s.js[i]? = some j) (hid : id = (i : Int) + 1) (h0 : jE 5 j 0 = 0) (hd : at1 s.ds j.draft = some d) (hb : at1 C.bl d.blue = some b) (hG : Gives C s j d b 0 s') :
 zuo C (nT s) id = (0, nT { s' with ds := zdw s'.ds j.draft id 0, js := s.js.set i (jDo 5 j 0) }) := by
 unfold zuo
 rw [show at1 (nT s).js id = some j from zal hg hid]
 simp only
 rw [if_neg (fun h => h h0), show at1 (nT s).ds j.draft = some d from hd]
 simp only
 rw [hb]
 simp only
 rw [zxv hok hG]
 rw [if_neg (fun h => h rfl), show (id - 1).toNat = i by omega]
theorem zxp (h : insE C s now o = e) (he : e ≠ 0) : zsk C (nT s) now o = (0, e, nT s) := by
 have h : insE C (nT s) now o = e := h
 unfold zsk; rw [h, if_pos he]
theorem zxo {y : Yb} {p' b' : Tb} (hi : s.ds[i]? = some d) (hdn : o.draft = (i : Int) + 1) (F : InsF C s now o y d b k x j p' b') (h : Asks (insW s i d j p' b') k x s.js.length j now s') :
 zsk C (nT s) now o = ((s.js.length : Int) + 1, 0, nT s') := by
 obtain ⟨l1, hl1, -, hb'⟩ := F.bins
 have hk : 2 * (o.bay - 1) + (if o.kind = 1 then 0 else 1) = (k : Int) := by
  have := F.at1
  rw [F.job] at this
  exact this
 have ek : (2 * (o.bay - 1) + (if o.kind = 1 then 0 else 1)).toNat = k := by omega
 have hf := F.fit
 have h1 : insE C (nT s) now o = 0 := by
  show insE C s now o = 0
  rw [zxq F.find hk F.side, if_neg (fun h => h hf), if_neg (fun h => h F.plan), ← F.job, if_neg (by have := F.fee; omega), if_pos (z0d.2 fun t ht => decide_eq_true (F.lie t ht))]
 unfold zsk
 rw [h1, if_neg (fun h => h rfl), F.find.bay, show at1 (nT s).ds o.draft = some d from F.find.dr]
 simp only
 rw [F.find.bl, ek, show (nT s).l[k]? = some x from F.side]
 simp only
 show (match zb5 ⟨o.own, o.div, y.place, 1⟩ (zd9 y b d o (zjw s.js.length o)).needs s.b with | some l1 => _ | none => _) = _
 rw [← F.job, hl1]
 simp only
 rw [asks_G h, show (o.draft - 1).toNat = i by omega, hb', F.pur]
end
end
section
set_option maxRecDepth 1000000
variable {Q : V → Mem → Prop}
theorem later_S {n : Int} (k : ∀ x, x = byN n → 0 ≤ x → x ≤ 255 → (n = 255 → x = 255) → Q (.i x) []) : PRun Tryz.prog 38 [] [.i n] Q := by
 refine S38 ?_
 have hb : (BitVec.ofInt 64 n &&& BitVec.ofInt 64 255).toNat ≤ 255 := by
  rw [z3r, show (BitVec.ofInt 64 255).toNat = 255 from rfl]
  exact Nat.and_le_right
 refine k _ (w64 (by omega) (by omega)) ?_ ?_ ?_
 · rw [w64 (by omega) (by omega)]; omega
 · rw [w64 (by omega) (by omega)]; omega
 · rintro rfl; rfl
structure Per (a b : List Jb) : Prop where
 len : b.length = a.length
 all : ∀ (i : Nat) (j : Jb), a[i]? = some j → ∃ j', b[i]? = some j' ∧ (j.st = 2 → (j'.st = 2 ∨ j'.st = 4) ∧ j'.fin = j.fin) ∧ (j.st = 4 → j'.st = 4 ∧ j'.fin = j.fin)
theorem Per.refl (a : List Jb) : Per a a := ⟨rfl, fun i j h => ⟨j, h, fun h2 => ⟨.inl h2, rfl⟩, fun h4 => ⟨h4, rfl⟩⟩⟩
theorem Per.trans {a b c : List Jb} (h : Per a b) (k : Per b c) : Per a c := ⟨by rw [k.len, h.len], fun i j hj => by
 obtain ⟨j1, h1, h2, h3⟩ := h.all i j hj
 obtain ⟨j2, k1, k2, k3⟩ := k.all i j1 h1
 refine ⟨j2, k1, fun e => ?_, fun e => ?_⟩
 · obtain ⟨hs, hf⟩ := h2 e
   rcases hs with hs | hs
   · have := k2 hs; exact ⟨this.1, by rw [this.2, hf]⟩
   · have := k3 hs; exact ⟨.inr this.1, by rw [this.2, hf]⟩
 · obtain ⟨hs, hf⟩ := h3 e
   have := k3 hs
   exact ⟨this.1, by rw [this.2, hf]⟩⟩
theorem Per.set {a : List Jb} (h : a[i]? = some j) (h2 : j.st = 2 → (j2.st = 2 ∨ j2.st = 4) ∧ j2.fin = j.fin) (h4 : j.st = 4 → j2.st = 4 ∧ j2.fin = j.fin) : Per a (a.set i j2) := ⟨by simp, fun k x hx => by
 have hlt := (zyz.1 h).1
 by_cases e : i = k
 · subst e
   rw [h] at hx; cases hx
   exact ⟨j2, zz3 hlt, h2, h4⟩
 · exact ⟨x, by rw [zzp e]; exact hx, fun h2 => ⟨.inl h2, rfl⟩, fun h4 => ⟨h4, rfl⟩⟩⟩
theorem lvs_pop {s s' : Wk} {id : Int} (hpm : (t :: T').Perm s.T) (ht : t.2.2 = 2 * id) (hno : ∀ x ∈ T', x.2.2 ≠ 2 * id) (h : Lvs { s with T := T' } id now s') : Lvs s id now s' := by
 have e : ∀ {T2 : List Tm}, TimF T' (2 * id) T2 → T2 = T' := fun hT => by
  rcases hT with ⟨x, h1, h2⟩ | ⟨-, h2⟩
  · exact absurd h2 (hno x (h1.mem_iff.1 zzq))
  · exact h2
 have hF : TimF s.T (2 * id) T' := .inl ⟨t, hpm, ht⟩
 cases h with
 | no hT a => have e1 := e hT; subst e1; exact .no hF a
 | one hT a b c => have e1 := e hT; subst e1; exact .one hF a b c
 | two hT a b c d f g => have e1 := e hT; subst e1; exact .two hF a b c d f g
theorem zwa {F : Int → Int → Int → Bool → Ob → Prop} {c : Bool} {X : Ob} : post [.agg [.i .i64, .i .i64, .i .i64], .B] [.A] F (.t [tV t, .u (.b c)]) [.o X] = F t.1 t.2.1 t.2.2 c X := rfl
abbrev aW (kind id an : Int) (o : Od) : V := .a [.i kind, .i id, .i an, .i o.who, .i o.own, .i o.div, .i o.bay, .i o.draft, .i o.kind, .i o.runs, .i o.copies]
theorem WT.fresh {C : Kt} {s : Wk} (h : WT C s) : ∀ x ∈ s.l, (s.js.length : Int) + 1 ∉ x.run ∧ (s.js.length : Int) + 1 ∉ x.wait := fun x hx => by
 obtain ⟨k, hk⟩ := zz4.1 hx
 have no : ∀ {P : Jb → Bool}, (s.js.length : Int) + 1 ∉ zcl P (·.id) s.js := fun {P} hm => by
  obtain ⟨j, h1, -, h3⟩ := selJ_mem.1 hm
  obtain ⟨i, hi⟩ := zz4.1 h1
  have := (h.jok i j hi).2.1
  have := (zyz.1 hi).1
  omega
 exact ⟨fun hm => no ((h.run k x hk).mem_iff.1 hm), fun hm => no ((h.wait k x hk).mem_iff.1 hm)⟩
theorem WT.off {C : Kt} {s : Wk} (h : WT C s) (hg : s.js[i]? = some j) (h3 : j.st = 3) : ∀ x ∈ s.l, j.id ∉ x.run ∧ j.id ∉ x.wait := fun x hx => by
 obtain ⟨k, hk⟩ := zz4.1 hx
 exact ⟨fun hm => by have := ((h.runs hk hg).1 hm).1; omega, fun hm => by have := ((h.waits hk hg).1 hm).1; omega⟩
theorem wdo_S {C : Kt} {n : Nat} {kind id an : Int} {s : Wk} (hC : KtC C) (hW : WV C (6 + 16 * n) (1 + 300 * (n : Int)) s) (hn : n ≤ 60) (ht0 : 0 ≤ now) (ht1 : now ≤ 255 * (n : Int)) (hl : zcd s.Lg ≤ now) (hd : ∀ t ∈ s.T, now < t.1)
 (K : ∀ (now' x e : Int) (s' : Wk), now ≤ now' → now' ≤ 255 * ((n + 1 : Nat) : Int) → (kind < 1 → an = 255 → now' = now + 255) → WV C (6 + 16 * (n + 1)) (1 + 300 * ((n + 1 : Nat) : Int)) s' → zcd s'.Lg ≤ now' → (∀ t ∈ s'.T, now' < t.1) →
  (kind ≠ 5 ∨ e ≠ 0 → ∀ t, tyQ t s'.b = tyQ t s.b) → (e ≠ 0 → s'.js = s.js) → (kind < 1 ∨ 5 < kind → Per s.js s'.js) → zs5 C (nT s) now kind id an o = ((now', x, e), nT s') → Q (.t [.i now', .i x, .i e]) (W9 C s')) :
 PRun Tryz.prog 9 (W8 C s) [.a [.r 0 0, .r 1 0, .r 2 0, .r 3 0, .r 4 0], .i now, aW kind id an o] Q := by
 have B := hW.wb hC (by omega) (by omega)
 have hnow : 0 ≤ now ∧ now ≤ 1099511627776 := by omega
 have same : ∀ x e : Int, 1 ≤ kind ∧ kind ≤ 5 → e ≠ 0 → zs5 C (nT s) now kind id an o = ((now, x, e), nT s) → Q (.t [.i now, .i x, .i e]) (W9 C s) := fun x e hk he hG => K now x e s (zzk _) (by omega) (fun h => by omega) (hW.up (by omega) (by omega)) hl hd (fun _ _ => rfl) (fun _ => rfl) (fun h => by omega) hG
 have kj : ∀ (i : Nat) (j : Jb), s.js[i]? = some j → 1 ≤ j.kind ∧ j.kind ≤ 4 := fun i j h => (ziz (B.jok i j h).1).2.1.1
 have due : ∀ {s' : Wk}, (∀ t ∈ s'.T, t ∈ s.T ∨ now < t.1) → ∀ t ∈ s'.T, now < t.1 := fun h t ht => by
  rcases h t ht with h | h
  · exact hd t h
  · exact h
 refine S9 (cEq (fun k1 => ?_) fun k1 => cEq (fun k2 => ?_) fun k2 => cEq (fun k3 => ?_) fun k3 => cEq (fun k4 => ?_) fun k4 => cEq (fun k5 => ?_) fun k5 => ?_)
 · -- Install
   refine inst_S (o := o) hC.ok B.pinv B.plen B.binv B.blen B.dnum B.dlen B.dok B.sh (by have := B.jlen; omega) B.l4 B.lsz B.Tlen B.nx hW.wt.fresh (fun e he hE => ?_) fun i y d b k x j p' b' s' hi hdn F hA => ?_
   · rw [zrv]; exact same 0 e (by omega) he (by unfold zs5; rw [if_pos k1, zxp hE he])
   · rw [zll]
     obtain ⟨w1, w2, w3⟩ := hW.inst hC hi hdn F hA
     have hLg : s'.Lg = s.Lg := by cases hA <;> rfl
     exact K now _ 0 s' (zzk _) (by omega) (fun h => by omega) (w1.up (by omega) (by omega)) (by rw [hLg]; exact hl) (due w3) (fun _ => w2) (fun h => absurd rfl h) (fun h => by omega) (by unfold zs5; rw [if_pos k1, zxo hi hdn F hA])
 · refine pause_S B (fun i j hg hid he => ?_) (fun e he hE => ?_) fun i j s' hg hid he hL => ?_
   · have e := (B.jok i j hg).2.1
     rw [show id = j.id by omega]
     exact hW.wt.lvOk hg hnow
   · rw [zcn]; exact same 0 e (by omega) he (by unfold zs5; rw [if_neg k1, if_pos k2, pauG_er hE he])
   · rw [zcn]
     have e := (B.jok i j hg).2.1
     rw [show id = j.id by omega] at hL
     have hG := pauG_ok hW.wt hg hid he (by rw [show id = j.id by omega]; exact hL)
     obtain ⟨w1, R⟩ := hW.pause hg he hL
     exact K now _ 0 s' (zzk _) (by omega) (fun h => by omega) (w1.up (by omega) (by omega)) (by rw [R.Lg]; exact hl) (due R.due) (fun _ t => by rw [R.b]) (fun h => absurd rfl h) (fun h => by omega) (by unfold zs5; rw [if_neg k1, if_pos k2, hG])
 · refine resume_S B (fun i j hg hid h3 => ?_) (fun e he hE => ?_) fun i j k x s' hg hid he ht hat hx hr hA => ?_
   · have e := (B.jok i j hg).2.1
     rw [show id = j.id by omega]
     exact hW.wt.off hg h3
   · rw [zcn]; exact same 0 e (by omega) he (by unfold zs5; rw [if_neg k1, if_neg k2, if_pos k3, resG_er hE he])
   · rw [zcn]
     obtain ⟨w1, R⟩ := hW.resume hg he ht hat hx hA
     exact K now _ 0 s' (zzk _) (by omega) (fun h => by omega) (w1.up (by omega) (by omega)) (by rw [R.Lg]; exact hl) (due R.due) (fun _ t => by rw [R.b]) (fun h => absurd rfl h) (fun h => by omega) (by unfold zs5; rw [if_neg k1, if_neg k2, if_pos k3, resG_ok hg hid he ht hat hx hr hA])
 · refine zya B (fun i j hg hid he ht => ?_) (fun e he hE => ?_) fun i j s' hg hid he ht hbi hbl hL => ?_
   · have e := (B.jok i j hg).2.1
     rw [show id = j.id by omega]
     exact hW.wt.lvOk hg hnow
   · rw [zcn]; exact same 0 e (by omega) he (by unfold zs5; rw [if_neg k1, if_neg k2, if_neg k3, if_pos k4, canG_er hE he])
   · rw [zcn]
     have e : id = j.id := by have := (B.jok i j hg).2.1; omega
     have hG := canG_ok (C := C) hW.wt hg hid he ht hL
     rw [e] at hL hG ⊢
     obtain ⟨ea, w1, w2, w3⟩ := hW.cancel hg he ht hl hbi hbl hL
     rw [ea] at hG ⊢
     exact K now _ 0 _ (zzk _) (by omega) (fun h => by omega) (w1.up (by omega) (by omega)) (by show zcd (s.Lg ++ [(now, 1, j.id, 6)]) ≤ now; rw [zkm]; exact zzk _) (due (s' := { s' with Lg := s.Lg ++ [(now, 1, j.id, 6)] }) w3) (fun _ => w2) (fun h => absurd rfl h) (fun h => by omega) (by unfold zs5; rw [if_neg k1, if_neg k2, if_neg k3, if_pos k4, e, hG])
 · refine zoq B (hW.hdr hC) (fun e he hE => ?_) fun i j d b s' hg hid he hda hba hG => ?_
   · rw [zcn]; exact same 0 e (by omega) he (by unfold zs5; rw [if_neg k1, if_neg k2, if_neg k3, if_neg k4, if_pos k5, zx3 kj he hE])
   · rw [zcn]
     have e : id = j.id := by have := (B.jok i j hg).2.1; omega
     have hD := zx2 (kj i j hg) hg hid he hda hba hG
     obtain ⟨F, -⟩ := zqn B hda hG
     obtain ⟨b1, b2⟩ := zkp hG hW.binv
     have w1 := hW.given F b1 b2
     have w2 := w1.deliver (i := i) (j := j) (by rw [F.js]; exact hg) he
     rw [e] at hD ⊢
     rw [F.js] at w2
     exact K now _ 0 _ (zzk _) (by omega) (fun h => by omega) (w2.up (by omega) (by omega)) (by show zcd s'.Lg ≤ now; rw [F.Lg]; exact hl) (by show ∀ t ∈ s'.T, now < t.1; rw [F.T]; exact hd) (fun h => absurd h (by omega)) (fun h => absurd rfl h) (fun h => by omega) (by unfold zs5; rw [if_neg k1, if_neg k2, if_neg k3, if_neg k4, if_pos k5, e, hD])
 · refine later_S fun z hzz hz0 hz1 hz2 => ?_
   rw [zaw]
   have wn : zyu .i64 (now + z) = now + z := w64 (by omega) (by omega)
   rw [wn]
   refine ⟨fun k a1 a2 a3 a4 a5 a6 a7 a8 r1 r2 x8 r3 t X1 X2 r4 x9 X3 => ∃ (j : Nat) (s1 : Wk) (lo : Int), k = (j : Int) ∧ C.ty = a1 ∧ C.bl.map eB = a2 ∧ C.pl = a3 ∧ C.bays.map eYb = a4 ∧ C.ch = a5 ∧ 200 = a6 ∧ 1 = a7 ∧ 500 = a8 ∧ s1.js.map za6 = r1 ∧ s1.p.map eT = r2 ∧ 562 = x8 ∧ s1.b.map eT = r3 ∧ zfl s1.b = t ∧ Ob.of (qS s1.T 256 s1.next) = X1 ∧ Ob.of (ze4 s1.Lg) = X2 ∧ s1.ds.map eD = r4 ∧ s1.g = x9 ∧ Ob.of (zqw s1.l) = X3 ∧
    WV C (6 + 16 * n) (1 + 300 * (n : Int) + j) s1 ∧ zcd s1.Lg ≤ lo ∧ (∀ t ∈ s1.T, lo ≤ t.1) ∧ now ≤ lo ∧ lo ≤ now + z ∧ (∀ t, tyQ t s1.b = tyQ t s.b) ∧ Per s.js s1.js ∧ j + live s1.js ≤ 64 ∧ latG (256 - j) (nT s1) (now + z) = latG 256 (nT s) (now + z),
    fun k _ _ _ _ _ _ _ _ _ _ _ _ _ _ _ _ _ _ => (256 - k).toNat, ⟨0, s, now, rfl, rfl, rfl, rfl, rfl, rfl, rfl, rfl, rfl, rfl, rfl, rfl, rfl, rfl, rfl, rfl, rfl, rfl, rfl, hW.up (zy9 _) (by omega), hl, fun t ht => by have := hd t ht; omega, zzk _, by omega, fun _ => rfl, Per.refl _, by have h1 := zhg (P := Pl) (f := (·.id)) s.js; have h2 := B.jlen; show 0 + (zcl Pl (·.id) s.js).length ≤ 64; omega, rfl⟩, ?_⟩
   rintro _ _ _ _ _ _ _ _ _ _ _ _ _ _ _ _ _ _ _ ⟨j, s1, lo, rfl, rfl, rfl, rfl, rfl, rfl, rfl, rfl, rfl, rfl, rfl, rfl, rfl, rfl, rfl, rfl, rfl, rfl, rfl, hW1, hl1, hd1, hlo, hlo2, hty, hper, hj, hlat⟩
   have B1 := hW1.wb hC (by omega) (by omega)
   refine cIf (fun hj256 => ?_) fun h => by omega
   rw [show 256 - j = (255 - j) + 1 by omega] at hlat
   refine pop_S (fun hno => ?_) fun t T' hpm htn hmin => ?_
   · show Q _ _
     exact K (now + z) 0 0 s1 (by omega) (by omega) (fun _ h => by rw [hz2 h]) (hW1.up (by omega) (by omega)) (by omega) hno (fun _ => hty) (fun h => absurd rfl h) (fun _ => hper) (by
      have hpn : popT (now + z) (zfj s1.T) = none := by
       cases h : zfj s1.T with
       | nil => rfl
       | cons t l =>
         have := hno t ((zap s1.T).mem_iff.1 (by rw [h]; exact zzq))
         exact if_neg (by omega)
      have h2 : latG ((255 - j) + 1) (nT s1) (now + z) = nT s1 := by
       show (match popT (now + z) (zfj s1.T) with | none => nT s1 | some (t, T') => _) = _
       rw [hpn]
      unfold zs5
      rw [if_neg k1, if_neg k2, if_neg k3, if_neg k4, if_neg k5, ← hzz, ← hlat, h2])
   · rw [zwa]
     refine ⟨by decide, ?_⟩
     have htm : t ∈ s1.T := hpm.mem_iff.1 zzq
     obtain ⟨i1, d1, hi1, hs2, hdp⟩ := hW1.wt.timer htm
     have hjo := B1.jok i1 d1 hi1
     have e1 : t.1 = d1.fin := congrArg Prod.fst hdp
     have e2 : t.2.2 = 2 * d1.id := congrArg Prod.snd hdp
     have hlt1 := (zyz.1 hi1).1
     have hjl := B1.jlen
     have hlot := hd1 t htm
     have etd : zyu .i64 (Int.tdiv t.2.2 2) = d1.id := by
      rw [e2, Int.tdiv_eq_ediv_of_nonneg (by omega), show (2 * d1.id) / 2 = d1.id by omega, w64 (by omega) (by omega)]
     rw [etd]
     have hjE : jE 4 d1 t.1 = 0 := jE_zero.2 ⟨hjo.1, inJ_iff.2 ⟨by omega, by omega⟩, by unfold zl2; rw [hs2, decide_eq_true (by omega)]; rfl⟩
     have hnone : ∀ x ∈ T', x.2.2 ≠ 2 * d1.id := fun x hx e => by
      have hx1 := hpm.mem_iff.1 (zzo _ hx)
      have h1 := (hW1.wt.timS hi1 hx1 e).1
      have hnd : (s1.T.map tp).Nodup := by
       refine (hW1.wt.tim.nodup_iff).2 ?_
       unfold zcl
       refine z17.2 ?_
       have : s1.js.Pairwise fun a b => a.id ≠ b.id := by
        rw [z1t]
        intro a b ha hb hab
        have h1 := (B1.jok a _ (zy0 ha)).2.1
        have h2 := (B1.jok b _ (zy0 hb)).2.1
        omega
       refine (this.filter _).imp fun {a b} hab e => hab ?_
       have := congrArg Prod.snd e
       simp only at this
       omega
      have hnd2 := ((hpm.map tp).nodup_iff).2 hnd
      rw [zzj] at hnd2
      refine (z0q.1 hnd2).1 (zzu.2 ⟨x, hx, ?_⟩)
      rw [h1, hdp]
     have hl2 := hpm.length_eq
     simp only [zzg] at hl2
     have Bp : WB C { s1 with T := T' } := { B1 with ids := zrx B1.ids hpm, Tlen := by have := B1.Tlen; show (T'.length : Int) < 256; omega }
     refine fire_S (s := { s1 with T := T' }) Bp (fun i d2 hg hid he => ?_) (fun e _ hbad => ?_) fun i d2 s2 hg hid he hL => ?_
     · have hii : i = i1 := by have := hjo.2.1; omega
       subst hii
       have hg : s1.js[i]? = some d2 := hg
       rw [hi1] at hg; cases hg
       have := hW1.wt.lvOk (now := t.1) (j2 := jDo 4 d1 t.1) hi1 ⟨by omega, by omega⟩
       exact this
     · exact absurd hjE (hbad i1 d1 hi1 hjo.2.1)
     · have hii : i = i1 := by have := hjo.2.1; omega
       subst hii
       have hg : s1.js[i]? = some d2 := hg
       rw [hi1] at hg; cases hg
       rw [zcn]
       have hnd3 : (T'.map fun t => t.2.2).Nodup := (z0q.1 ((hpm.map fun t => t.2.2).nodup_iff.2 hW1.wt.whats)).2
       have hdf3 : DifT T' := (zz5.1 (DifT.perm hpm.symm hW1.wt.ids)).2
       have hF := firG_ok hW1.wt hi1 hjo.2.1 hjE hnd3 hdf3 hL
       have h2 : latG ((255 - j) + 1) (nT s1) (now + z) = latG (255 - j) (nT { s2 with Lg := zml s2.Lg (t.1, 1, d1.id, 4) }) (now + z) := by
        show (match popT (now + z) (zfj s1.T) with | none => nT s1 | some (t, T') => latG (255 - j) (firG { nT s1 with T := T' } t.1 (t.2.2 / 2)).2 (now + z)) = _
        rw [srtT_min hpm hmin hW1.wt.ids, show popT (now + z) (t :: zfj T') = some (t, zfj T') from if_pos htn]
        show latG (255 - j) (firG (nT { s1 with T := T' }) t.1 (t.2.2 / 2)).2 (now + z) = _
        rw [e2, show (2 * d1.id) / 2 = d1.id by omega, hF]
       rw [h2] at hlat
       have hL2 : Lvs { s1 with js := s1.js.set i (jDo 4 d1 t.1) } d1.id t.1 s2 := lvs_pop (s := { s1 with js := s1.js.set i (jDo 4 d1 t.1) }) hpm e2 hnone hL
       obtain ⟨ea, w1, R⟩ := hW1.fire hi1 hjE e1 (by omega) hL2
       rw [ea] at hlat ⊢
       have ej : zyu .i64 ((j : Int) + 1) = ((j + 1 : Nat) : Int) := by rw [w64 (by omega) (by omega)]; omega
       rw [ej]
       have hlv := (R.live hi1).1
       have hls := zdt (e := jDo 4 d1 t.1) hi1
       rw [if_pos (by omega), if_neg (by show ¬ (4 : Int) ≤ 3; omega)] at hls
       have hp1 : Per s1.js s2.js := by
        have p1 : Per s1.js (s1.js.set i (jDo 4 d1 t.1)) := Per.set hi1 (fun _ => ⟨.inr rfl, rfl⟩) fun h => by omega
        rcases R.js with e | ⟨m, a, hne, ha, hae, e⟩
        · rw [e]; exact p1
        · rw [e]
          have hst := (zgp hae).2
          exact p1.trans (Per.set (j := a) (by rw [zzp (Ne.symm hne)]; exact ha) (fun h => by omega) fun h => by omega)
       refine ⟨⟨j + 1, { s2 with Lg := s1.Lg ++ [(t.1, 1, d1.id, 4)] }, t.1, by first | trivial | rfl, by first | trivial | rfl, by first | trivial | rfl, by first | trivial | rfl, by first | trivial | rfl, by first | trivial | rfl, by first | trivial | rfl, by first | trivial | rfl, by first | trivial | rfl, by first | trivial | rfl, by first | trivial | rfl, by first | trivial | rfl, by first | trivial | rfl, by first | trivial | rfl, by first | trivial | rfl, by first | trivial | rfl, by first | trivial | rfl, by first | trivial | rfl, by first | trivial | rfl, w1.up (zy9 _) (by omega), ?_, fun x hx => ?_, by omega, htn, fun u => ?_, hper.trans hp1, ?_, ?_⟩, ?_⟩
       · show zcd (s1.Lg ++ [(t.1, 1, d1.id, 4)]) ≤ t.1
         rw [zkm]; exact zzk _
       · rcases R.due x hx with h | h
         · have := hmin x h
           unfold leT at this
           omega
         · omega
       · show tyQ u s2.b = _
         rw [R.b]; exact hty u
       · show j + 1 + live s2.js ≤ 64
         omega
       · rw [show 256 - (j + 1) = 255 - j by omega]
         exact hlat
       · dsimp only; omega
end
section
set_option maxRecDepth 1000000
variable {Q : V → Mem → Prop}
theorem zup {K : Int → Prop} (k : K j.st) : dI .i64 (ug (za6 j) 12) K := k
theorem dJ14 {K : Int → Prop} (k : K j.fin) : dI .i64 (ug (za6 j) 14) K := k
end
section
set_option maxRecDepth 100000
theorem mixTn4 : Tryz.prog.follows .mixedOrders = true := by kernel_rfl
theorem S3 {g : Int} {a2 : List (List U)} {Q : V → Mem → Prop} (hh : (PRun Tryz.prog 7 [] [.i g] (fun f0 f1 => f0 = .t [(q26 ), .u (.b true)] ∧ f1 = [.c [.i (ktW g).ty, .l 7 (zzf eB (ktW g).bl), .i (ktW g).pl, .l 4 (zzf eYb (ktW g).bays), .i (ktW g).ch, .i 200, .i 1, .i 500, .r 1 0, .r 2 0, .r 3 0, .r 4 0, .r 5 0, .r 6 0, .w 7], .c [.l 5 (zzf eT p0), .i 562], .c [.l 5 (zzf eT b0), .n .i64 33 (zfl b0)], .o (Ob.of (qS [] 256 1)), .o (Ob.of (ze4 [])), .c [.l 13 (zzf eD ds0), .i 5], .o (Ob.of (zqw (ln0 g))), .w 48 16 []])) ∧ (bif decide ((zyv a2 : Int) > 30) then PRun Tryz.prog 8 [] [] (post [.B] [] (fun f2 => (Q (.u (.b f2)) [] : Prop))) else ∃ (a3 : Int → Int → Int → List (List U) → Int → List (List U) → Int → Int → Int → Int → List (List U) → List (List U) → Int → List (List U) → List Int → Ob → Ob → List (List U) → Int → Ob → Prop) (a6 : Int → Int → Int → List (List U) → Int → List (List U) → Int → Int → Int → Int → List (List U) → List (List U) → Int → List (List U) → List Int → Ob → Ob → List (List U) → Int → Ob → Nat), a3 0 0 (ktW g).ty (zzf eB (ktW g).bl) (ktW g).pl (zzf eYb (ktW g).bays) (ktW g).ch 200 1 500 [] (zzf eT p0) 562 (zzf eT b0) (zfl b0) (Ob.of (qS [] 256 1)) (Ob.of (ze4 [])) (zzf eD ds0) 5 (Ob.of (zqw (ln0 g))) ∧ (∀ m k n : Int, ∀ o : List (List U), ∀ p : Int, ∀ q : List (List U), ∀ r s t u : Int, ∀ v w : List (List U), ∀ x : Int, ∀ y : List (List U), ∀ α : List Int, ∀ β γ : Ob, ∀ δ : List (List U), ∀ ε : Int, ∀ ζ : Ob, a3 m k n o p q r s t u v w x y α β γ δ ε ζ → (bif decide (k < (zyv a2 : Int)) then elL a2 k (fun i => dI .i64 (ug i 0) (fun f3 => dI .i64 (ug i 1) (fun f4 => dI .i64 (ug i 2) (fun f5 => dI .i64 (ug i 3) (fun f6 => dI .i64 (ug i 4) (fun f7 => dI .i64 (ug i 5) (fun f8 => dI .i64 (ug i 6) (fun f9 => dI .i64 (ug i 7) (fun g0 => dI .i64 (ug i 8) (fun g1 => dI .i64 (ug i 9) (fun g2 => dI .i64 (ug i 10) (fun g3 => PRun Tryz.prog 9 (q14 n o p q r s t u w x y α β γ δ ε ζ v) [(q26 ), .i m, .a [.i f3, .i f4, .i f5, .i f6, .i f7, .i f8, .i f9, .i g0, .i g1, .i g2, .i g3]] (post [.I, .I, .I] q1 (fun a7 n4 n5 a8 a9 b1 b2 b3 b4 b5 b6 b7 b8 b9 c0 c1 c2 c3 c4 c5 c6 => (a3 a7 (zyu .i64 (k + 1)) a8 a9 b1 b2 b3 b4 b5 b6 b7 b8 b9 c0 c1 c2 c3 c4 c5 c6 ∧ a6 a7 (zyu .i64 (k + 1)) a8 a9 b1 b2 b3 b4 b5 b6 b7 b8 b9 c0 c1 c2 c3 c4 c5 c6 < a6 m k n o p q r s t u v w x y α β γ δ ε ζ : Prop))))))))))))))) else PRun Tryz.prog 10 (q14 n o p q r s t u w x y α β γ δ ε ζ v) [.r 0 0] (post [.L 16] q1 (fun h g4 g5 g6 g7 g8 g9 h0 h1 h2 h3 h4 h5 h6 h7 h8 h9 i0 i1 => ∃ (a4 : Int → Int → Int → List (List U) → Int → List (List U) → Int → Int → Int → Int → List (List U) → List (List U) → Int → List (List U) → List Int → Ob → Ob → List (List U) → Int → Ob → Prop) (c7 : Int → Int → Int → List (List U) → Int → List (List U) → Int → Int → Int → Int → List (List U) → List (List U) → Int → List (List U) → List Int → Ob → Ob → List (List U) → Int → Ob → Nat), a4 m 0 g4 g5 g6 g7 g8 g9 h0 h1 h2 h3 h4 h5 h6 h7 h8 h9 i0 i1 ∧ (∀ j l η : Int, ∀ θ : List (List U), ∀ ι : Int, ∀ κ : List (List U), ∀ μ ν ξ ο : Int, ∀ π ρ : List (List U), ∀ σ : Int, ∀ τ : List (List U), ∀ υ : List Int, ∀ φ χ : Ob, ∀ ψ : List (List U), ∀ ω : Int, ∀ a0 : Ob, a4 j l η θ ι κ μ ν ξ ο π ρ σ τ υ φ χ ψ ω a0 → (bif decide (l < 16) then PRun Tryz.prog 9 (q14 η θ ι κ μ ν ξ ο ρ σ τ υ φ χ ψ ω a0 π) [(q26 ), .i j, .a [.i 0, .i 0, .i 255, .i 0, .i 0, .i 0, .i 0, .i 0, .i 0, .i 0, .i 0]] (post [.I, .I, .I] q1 (fun c8 n6 n7 c9 d0 d1 d2 d3 d4 d5 d6 d7 d8 d9 e0 e1 e2 e3 e4 e5 e6 => (a4 c8 (zyu .i64 (l + 1)) c9 d0 d1 d2 d3 d4 d5 d6 d7 d8 d9 e0 e1 e2 e3 e4 e5 e6 ∧ c7 c8 (zyu .i64 (l + 1)) c9 d0 d1 d2 d3 d4 d5 d6 d7 d8 d9 e0 e1 e2 e3 e4 e5 e6 < c7 j l η θ ι κ μ ν ξ ο π ρ σ τ υ φ χ ψ ω a0 : Prop))) else PRun Tryz.prog 10 (q14 η θ ι κ μ ν ξ ο ρ σ τ υ φ χ ψ ω a0 π) [.r 0 0] (post [.L 16] q1 (fun d n8 n9 o0 o1 o2 o3 o4 o5 o6 o7 o8 o9 p1 p2 i2 p3 p4 p5 => (bif (zyv d : Int) != (zyv h : Int) then Q (.u (.b false)) [] else ∃ (e : Int → Ob → Prop) (b : Int → Ob → Nat), e 0 i2 ∧ (∀ a : Int, ∀ f : Ob, e a f → (bif decide (a < (zyv d : Int)) then PRun Tryz.prog 11 [.o f] [.r 0 0, .i 1, .i (zyu .i64 (a + 1))] (post [.agg [.i .i64, .i .i64, .i .i64, .i .i64], .B] [.A] (fun e7 p6 p7 e8 e9 c => ∀ a5 : Bool → Prop, (∀ a1 : Bool, ((bif a1 then (bif !(e9 == true) then Q (.u (.b false)) [] else (bif a1 then (bif e8 != 4 then Q (.u (.b false)) [] else elL d a (fun i3 => dI .i64 (ug i3 14) (fun i4 => (bif e7 != i4 then Q (.u (.b false)) [] else elL h a (fun i5 => dI .i64 (ug i5 12) (fun i6 => (bif i6 == 2 then elL h a (fun i7 => dI .i64 (ug i7 14) (fun i8 => (bif decide (i8 ≤ j) then elL d a (fun i9 => dI .i64 (ug i9 12) (fun j0 => (bif j0 != 4 then Q (.u (.b false)) [] else elL d a (fun j1 => dI .i64 (ug j1 14) (fun j2 => elL h a (fun j3 => dI .i64 (ug j3 14) (fun j4 => (bif j2 != j4 then Q (.u (.b false)) [] else e (zyu .i64 (a + 1)) c ∧ b (zyu .i64 (a + 1)) c < b a f)))))))) else e (zyu .i64 (a + 1)) c ∧ b (zyu .i64 (a + 1)) c < b a f))) else e (zyu .i64 (a + 1)) c ∧ b (zyu .i64 (a + 1)) c < b a f))))))) else elL h a (fun j5 => dI .i64 (ug j5 12) (fun j6 => (bif j6 == 2 then elL h a (fun j7 => dI .i64 (ug j7 14) (fun j8 => (bif decide (j8 ≤ j) then elL d a (fun j9 => dI .i64 (ug j9 12) (fun k0 => (bif k0 != 4 then Q (.u (.b false)) [] else elL d a (fun k1 => dI .i64 (ug k1 14) (fun k2 => elL h a (fun k3 => dI .i64 (ug k3 14) (fun k4 => (bif k2 != k4 then Q (.u (.b false)) [] else e (zyu .i64 (a + 1)) c ∧ b (zyu .i64 (a + 1)) c < b a f)))))))) else e (zyu .i64 (a + 1)) c ∧ b (zyu .i64 (a + 1)) c < b a f))) else e (zyu .i64 (a + 1)) c ∧ b (zyu .i64 (a + 1)) c < b a f))))) else elL d a (fun k5 => dI .i64 (ug k5 12) (fun k6 => (bif !(e9 == (k6 == 6)) then Q (.u (.b false)) [] else (bif a1 then (bif e8 != 4 then Q (.u (.b false)) [] else elL d a (fun k7 => dI .i64 (ug k7 14) (fun k8 => (bif e7 != k8 then Q (.u (.b false)) [] else elL h a (fun k9 => dI .i64 (ug k9 12) (fun l0 => (bif l0 == 2 then elL h a (fun l1 => dI .i64 (ug l1 14) (fun l2 => (bif decide (l2 ≤ j) then elL d a (fun l3 => dI .i64 (ug l3 12) (fun l4 => (bif l4 != 4 then Q (.u (.b false)) [] else elL d a (fun l5 => dI .i64 (ug l5 14) (fun l6 => elL h a (fun l7 => dI .i64 (ug l7 14) (fun l8 => (bif l6 != l8 then Q (.u (.b false)) [] else e (zyu .i64 (a + 1)) c ∧ b (zyu .i64 (a + 1)) c < b a f)))))))) else e (zyu .i64 (a + 1)) c ∧ b (zyu .i64 (a + 1)) c < b a f))) else e (zyu .i64 (a + 1)) c ∧ b (zyu .i64 (a + 1)) c < b a f))))))) else elL h a (fun l9 => dI .i64 (ug l9 12) (fun m0 => (bif m0 == 2 then elL h a (fun m1 => dI .i64 (ug m1 14) (fun m2 => (bif decide (m2 ≤ j) then elL d a (fun m3 => dI .i64 (ug m3 12) (fun m4 => (bif m4 != 4 then Q (.u (.b false)) [] else elL d a (fun m5 => dI .i64 (ug m5 14) (fun m6 => elL h a (fun m7 => dI .i64 (ug m7 14) (fun m8 => (bif m6 != m8 then Q (.u (.b false)) [] else e (zyu .i64 (a + 1)) c ∧ b (zyu .i64 (a + 1)) c < b a f)))))))) else e (zyu .i64 (a + 1)) c ∧ b (zyu .i64 (a + 1)) c < b a f))) else e (zyu .i64 (a + 1)) c ∧ b (zyu .i64 (a + 1)) c < b a f))))))))) → a5 a1) → elL d a (fun m9 => dI .i64 (ug m9 12) (fun n0 => (bif n0 == 4 then a5 true else elL d a (fun n1 => dI .i64 (ug n1 12) (fun n2 => a5 (n2 == 5)))))))) else PRun Tryz.prog 8 [] [] (post [.B] [] (fun n3 => (Q (.u (.b n3)) [] : Prop))))) : Prop))))))))))) : PRun Tryz.prog 3 [] [.i g, .l 11 a2] Q :=
 zad mixTn4 Tryz.func3 (by kernel_rfl) (H := ⟨[((3, 6, 9), ⟨[(7, .I), (8, .I)], [(0, .c [.i .i64, .l 7, .i .i64, .l 4, .i .i64, .i .i64, .i .i64, .i .i64, .r 1 0, .r 2 0, .r 3 0, .r 4 0, .r 5 0, .r 6 0, .ow 48 16]), (1, .c [.l 5, .i .i64]), (2, .c [.l 5, .n 33]), (3, .A), (4, .A), (5, .c [.l 13, .i .i64]), (6, .A)]⟩), ((3, 12, 11), ⟨[(7, .I), (13, .I)], [(0, .c [.i .i64, .l 7, .i .i64, .l 4, .i .i64, .i .i64, .i .i64, .i .i64, .r 1 0, .r 2 0, .r 3 0, .r 4 0, .r 5 0, .r 6 0, .ow 48 16]), (1, .c [.l 5, .i .i64]), (2, .c [.l 5, .n 33]), (3, .A), (4, .A), (5, .c [.l 13, .i .i64]), (6, .A)]⟩), ((3, 20, 13), ⟨[(18, .I)], [(4, .A)]⟩)], [((3, 24, 14), ⟨[(21, .B), (101, .one .z), (102, .one .z), (103, .one .z), (104, .one .z), (105, .one .z), (106, .one .z)], []⟩)], [], [], [], false, 64, KN.no, false, (spKg 7 bgR)⟩) (n := 2) (by kernel_rfl) hh
end
section
set_option maxRecDepth 100000
theorem mixTa2 : Tryz.prog.follows .mixedOrders = true := by kernel_rfl
theorem S8 {Q : V → Mem → Prop} (hh : (PRun Tryz.prog 7 [] [.i 0] (fun a b => a = .t [(q26 ), .u (.b true)] ∧ b = [.c [.i (ktW 0).ty, .l 7 (zzf eB (ktW 0).bl), .i (ktW 0).pl, .l 4 (zzf eYb (ktW 0).bays), .i (ktW 0).ch, .i 200, .i 1, .i 500, .r 1 0, .r 2 0, .r 3 0, .r 4 0, .r 5 0, .r 6 0, .w 7], .c [.l 5 (zzf eT p0), .i 562], .c [.l 5 (zzf eT b0), .n .i64 33 (zfl b0)], .o (Ob.of (qS [] 256 1)), .o (Ob.of (ze4 [])), .c [.l 13 (zzf eD ds0), .i 5], .o (Ob.of (zqw (ln0 0))), .w 48 16 []])) ∧ (PRun Tryz.prog 29 [.c [.i (ktW 0).ty, .l 7 (zzf eB (ktW 0).bl), .i (ktW 0).pl, .l 4 (zzf eYb (ktW 0).bays), .i (ktW 0).ch, .i 200, .i 1, .i 500, .r 1 0, .r 2 0, .r 3 0, .r 4 0, .r 5 0, .r 6 0, .w 7], .c [.l 5 (zzf eT p0), .i 562], .c [.l 5 (zzf eT b0), .n .i64 33 (zfl b0)], .o (Ob.of (qS [] 256 1)), .o (Ob.of (ze4 [])), .c [.l 13 (zzf eD ds0), .i 5], .o (Ob.of (zqw (ln0 0))), .w 48 16 []] [.r 0 0, .i 5, .a [.i 1, .i 1, .i 0, .i 1, .i 1, .i 1, .i 2, .i 0]] (post q10 q1 (fun c d e f g h i j k l m n o p q r s t u v => (PRun Tryz.prog 29 (q14 e f g h i j k l n o p q r s t u v m) [.r 0 0, .i 5, .a [.i 1, .i 1, .i 0, .i 1, .i 1, .i 1, .i 2, .i 0]] (post q10 q1 (fun h8 w x y α β γ δ ε ζ η θ ι κ μ ν ξ ο π ρ => (PRun Tryz.prog 29 (q14 x y α β γ δ ε ζ θ ι κ μ ν ξ ο π ρ η) [.r 0 0, .i 6, .a [.i 1, .i 1, .i 0, .i 1, .i 3, .i 1, .i 2, .i 0]] (post q10 q1 (fun σ τ υ φ χ ψ ω a0 a1 a2 a3 a4 a5 a6 a7 a8 a9 b1 b2 b3 => (PRun Tryz.prog 30 (q14 υ φ χ ψ ω a0 a1 a2 a4 a5 a6 a7 a8 a9 b1 b2 b3 a3) [.r 0 0, .i 1] (post q2 q1 (fun h9 i0 i1 i2 i3 i4 i5 i6 i7 i8 b4 i9 j0 j1 b5 j2 b6 b7 b8 b9 c0 c1 c2 c3 c4 c5 c6 c7 c8 c9 d0 d1 d2 d3 d4 => (PRun Tryz.prog 9 (q14 b7 b8 b9 c0 c1 c2 c3 c4 c6 c7 c8 c9 d0 d1 d2 d3 d4 c5) [(q26 ), .i 6, .a [.i 0, .i 0, .i 100, .i 0, .i 0, .i 0, .i 0, .i 0, .i 0, .i 0, .i 0]] (post [.I, .I, .I] q1 (fun j3 j4 j5 d5 d6 d7 d8 d9 e0 e1 e2 e3 e4 e5 e6 e7 e8 e9 f0 f1 f2 => (bif c == 1 then (bif d == 0 then (bif w == 12 then (bif σ == 2 then (bif τ == 0 then (bif b6 == 0 then (bif b5 == 25 then (bif b4 == 2 then PRun Tryz.prog 31 (q14 d5 d6 d7 d8 d9 e0 e1 e2 e4 e5 e6 e7 e8 e9 f0 f1 f2 e3) [.r 0 0, .i 1] (post q7 q1 (fun f3 f4 f5 f6 f7 f8 f9 g0 g1 g2 g3 g4 g5 g6 g7 g8 g9 h0 h1 => (bif f3 == 0 then PRun Tryz.prog 32 (q15 g5 g6) [.r 0 0, q16 1 0 1 3] (post q7 q3 (fun h2 h3 h4 => (bif h2 == 20 then PRun Tryz.prog 31 (q14 f4 f5 f6 f7 f8 f9 g0 g1 g3 g4 h3 h4 g7 g8 g9 h0 h1 g2) [.r 0 0, .i 2] (post q7 q1 (fun h5 j6 j7 j8 j9 k0 k1 k2 k3 k4 k5 k6 k7 k8 k9 h6 l0 l1 l2 => (bif h5 == 0 then PRun Tryz.prog 33 [.o h6] [.r 0 0] (post [.L 4] [.A] (fun h7 l3 => (bif (zyv h7 : Int) == 2 then Q (.u (.b true)) [] else Q (.u (.b false)) [] : Prop))) else Q (.u (.b false)) [] : Prop))) else Q (.u (.b false)) [] : Prop))) else Q (.u (.b false)) [] : Prop))) else Q (.u (.b false)) []) else Q (.u (.b false)) []) else Q (.u (.b false)) []) else Q (.u (.b false)) []) else Q (.u (.b false)) []) else Q (.u (.b false)) []) else Q (.u (.b false)) []) else Q (.u (.b false)) [] : Prop))) : Prop))) : Prop))) : Prop))) : Prop))))) : PRun Tryz.prog 8 [] [] Q :=
 zad mixTa2 Tryz.func8 (by kernel_rfl) (H := ⟨[], [], [34], [], [], false, 64, KN.no, false, (spKg 7 bgR)⟩) (n := 3) (by kernel_rfl) hh
end
section
set_option maxRecDepth 1000000
variable {Q : V → Mem → Prop}
theorem bl0_ok : ∀ b ∈ bl0, b.Rg ∧ zd1 b 32 = 0 := by
 intro b hb
 simp only [bl0, zy3, z0w, or_false] at hb
 rcases hb with rfl | rfl
 · refine ⟨⟨fun t ht => ?_, by decide⟩, blueE_ok.2 ⟨by decide, by decide, by decide, by decide, by decide, by decide, by decide, ⟨by decide, by decide, by decide⟩, by unfold zuq; split <;> decide⟩⟩
   simp only [zy3, z0w, or_false] at ht
   rcases ht with rfl | rfl <;> decide
 · refine ⟨⟨fun t ht => ?_, by decide⟩, blueE_ok.2 ⟨by decide, by decide, by decide, by decide, by decide, by decide, by decide, ⟨by decide, by decide, by decide⟩, by unfold zuq; split <;> decide⟩⟩
   simp only [zy3, z0w, or_false] at ht
   rcases ht with rfl <;> decide
theorem zxb (w : Int) : KtC (ktW w) where
 ok := {
  bays := rfl
  bay := fun y hy => by
   have h1 := w1_12 w; have h2 := w2_12 w; have h3 := w3_01 w
   simp only [ktW, zy3, z0w, or_false] at hy
   rcases hy with rfl | rfl
   · exact ⟨by show (1 : Int) ≤ 1 ∧ (1 : Int) ≤ 8; decide, by show (0 : Int) ≤ 1000 ∧ (1000 : Int) ≤ 10000; decide⟩
   · exact ⟨⟨by simp only; omega, by simp only; omega⟩, by show (0 : Int) ≤ 0 ∧ (0 : Int) ≤ 10000; decide⟩
  bl := by show bl0.length ≤ 1000; decide
  rg := fun b hb => (bl0_ok b hb).1
  q := show ∀ b ∈ bl0, ∀ s ∈ b.needs, s.2 ≤ 1099511627776 by decide }
 blue b hb := (bl0_ok b hb).2
theorem wk0_T (w : Int) : WT (ktW w) (wk0 w) where
 l4 := rfl
 slot k x hx := by
  match k, hx with
  | 0, hx => cases hx; exact ⟨_, rfl, rfl⟩
  | 1, hx => cases hx; exact ⟨_, rfl, rfl⟩
  | 2, hx => cases hx; exact ⟨_, rfl, rfl⟩
  | 3, hx => cases hx; exact ⟨_, rfl, rfl⟩
  | k + 4, hx => simp [wk0, newL] at hx
 room x hx := by
  have h1 := w1_12 w; have h3 := w3_01 w
  simp only [wk0, newL, zy3, z0w, or_false] at hx
  rcases hx with rfl | rfl | rfl | rfl <;> simp <;> omega
 run k x hx := by
  have := zy4 hx
  simp only [wk0, newL, zy3, z0w, or_false] at this
  rcases this with rfl | rfl | rfl | rfl <;> exact .refl _
 wait k x hx := by
  have := zy4 hx
  simp only [wk0, newL, zy3, z0w, or_false] at this
  rcases this with rfl | rfl | rfl | rfl <;> exact .refl _
 tim := .refl _
 ids := .nil
 lt t ht := by simp [wk0] at ht
 jok i j h := by simp [wk0] at h
 jlen := by show ([] : List Jb).length ≤ 64; decide
theorem wk0_V (w : Int) : WV (ktW w) (6 + 16 * 0) (1 + 300 * ((0 : Nat) : Int)) (wk0 w) where
 wt := wk0_T w
 pinv := p0_inv
 plen := by show p0.length ≤ 4; decide
 binv := b0_inv
 blen := by show b0.length ≤ 6; decide
 nx := by show (1 : Int) ≤ _; omega
 dnum := zx1
 dlen := by show ds0.length ≤ 64; decide
 glen := rfl
 dok d hd := by
  have hd : d ∈ ds0 := hd
  simp only [ds0, zy3, z0w, or_false] at hd
  rcases hd with rfl | rfl | rfl | rfl | rfl
  · exact ⟨by decide, by decide, _, rfl⟩
  · exact ⟨by decide, by decide, _, rfl⟩
  · exact ⟨by decide, by decide, _, rfl⟩
  · exact ⟨by decide, by decide, _, rfl⟩
  · exact ⟨by decide, by decide, _, rfl⟩
 dr i j h := by simp [wk0] at h
 mark i j h := by simp [wk0] at h
 mlen := rfl
 mid m h := by simp [wk0] at h
structure Aw where
 kind : Int
 id : Int
 an : Int
 o : Od
abbrev eAw (a : Aw) : List U := [.n a.kind, .n a.id, .n a.an, .n a.o.who, .n a.o.own, .n a.o.div, .n a.o.bay, .n a.o.draft, .n a.o.kind, .n a.o.runs, .n a.o.copies]
theorem zn9 {α : Type} {f : α → List U} : ∀ {rows : List (List U)}, (∀ r ∈ rows, ∃ x, r = f x) → ∃ l : List α, rows = l.map f
 | [], _ => ⟨[], rfl⟩
 | r :: rows, h => by
   obtain ⟨x, rfl⟩ := h r zzq
   obtain ⟨l, rfl⟩ := zn9 fun s hs => h s (zzo _ hs)
   exact ⟨x :: l, rfl⟩
abbrev dsW : Ds := (.i .i64 (.i .i64 (.i .i64 (.i .i64 (.i .i64 (.i .i64 (.i .i64 (.i .i64 (.i .i64 (.i .i64 (.i .i64 .nil)))))))))))
theorem zyt {rows : List (List U)} (h : ∀ r ∈ rows, ShU dsW r) : ∃ l : List Aw, rows = l.map eAw :=
 zn9 fun r hr => by
  obtain ⟨a1, _, rfl, -, a2, _, rfl, -, a3, _, rfl, -, a4, _, rfl, -, a5, _, rfl, -, a6, _, rfl, -, a7, _, rfl, -, a8, _, rfl, -, a9, _, rfl, -, a10, _, rfl, -, a11, _, rfl, -, rfl⟩ := h r hr
  exact ⟨⟨a1, a2, a3, ⟨a4, a5, a6, a7, a8, a9, a10, a11⟩⟩, rfl⟩
section
variable {C : Kt} {s : Wk}
theorem zwg {F : List (List U) → FWk} : post [.L 16] patW F (.l 16 r) (W9 C s) = apW C s (F r) := by kernel_rfl
theorem zif {F : Int → Int → Int → FWk} {e e' e2 : Int} : post [.I, .I, .I] patW F (.t [.i e, .i e', .i e2]) (W9 C s) = apW C s (F e e' e2) := by kernel_rfl
end
theorem zlk {F : Int → Int → Int → Int → Bool → Ob → Prop} {x : Mk} {c : Bool} {X : Ob} : post [.agg [.i .i64, .i .i64, .i .i64, .i .i64], .B] [.A] F (.t [mV x, .u (.b c)]) [.o X] = F x.1 x.2.1 x.2.2.1 x.2.2.2 c X := rfl
end
section
set_option maxRecDepth 1000000
variable {Q : V → Mem → Prop}
section
variable {C : Kt} {s : Wk} {n : Nat} {now id : Int} {o : Od}
theorem nT_nT (h : WT C s) : nT (nT s) = nT s := by
 show { s with T := zfj (zfj s.T) } = _
 rw [srtT_id (zb4 s.T) (DifT.perm (zap s.T).symm h.ids)]
theorem zqi (hC : KtC C) (hW : WV C (6 + 16 * n) (1 + 300 * (n : Int)) s) (hn : n ≤ 60) (hd : ∀ t ∈ s.T, now < t.1) (k1 : ∀ e, e ≠ 0 → zsk C (nT s) now o = (0, e, nT s) → Q (.t [.i 0, .i e]) (W8 C s))
 (k2 : ∀ x s', zsk C (nT s) now o = (x, 0, nT s') → WV C (6 + 16 * (n + 1)) (1 + 300 * ((n + 1 : Nat) : Int)) s' → (∀ t ∈ s'.T, now < t.1) → s'.Lg = s.Lg → Q (.t [.i x, .i 0]) (W9 C s')) :
 PRun Tryz.prog 29 (W8 C s) [.r 0 0, .i now, oV o] Q := by
 have B := hW.wb hC (by omega) (by omega)
 refine inst_S (o := o) hC.ok B.pinv B.plen B.binv B.blen B.dnum B.dlen B.dok B.sh (by have := B.jlen; omega) B.l4 B.lsz B.Tlen B.nx hW.wt.fresh (fun e he hE => k1 e he (zxp hE he)) fun i y d b k x j p' b' s' hi hdn F hA => ?_
 obtain ⟨w1, w2, w3⟩ := hW.inst hC hi hdn F hA
 exact k2 _ s' (zxo hi hdn F hA) (w1.up (by omega) (by omega)) (fun t ht => (w3 t ht).elim (hd t) id) (by cases hA <;> rfl)
theorem delG_S (hC : KtC C) (hW : WV C (6 + 16 * n) (1 + 300 * (n : Int)) s) (hn : n ≤ 60) (k1 : ∀ e, e ≠ 0 → zuo C (nT s) id = (e, nT s) → Q (.i e) (W9 C s))
 (k2 : ∀ s', zuo C (nT s) id = (0, nT s') → WV C (6 + 16 * (n + 1)) (1 + 300 * ((n + 1 : Nat) : Int)) s' → Q (.i 0) (W9 C s')) :
 PRun Tryz.prog 31 (W8 C s) [.r 0 0, .i id] Q := by
 have B := hW.wb hC (by omega) (by omega)
 have kj : ∀ (i : Nat) (j : Jb), s.js[i]? = some j → 1 ≤ j.kind ∧ j.kind ≤ 4 := fun i j h => (ziz (B.jok i j h).1).2.1.1
 refine zoq B (hW.hdr hC) (fun e he hE => k1 e he (zx3 kj he hE)) fun i j d b s' hg hid he hda hba hG => ?_
 have e : id = j.id := by have := (B.jok i j hg).2.1; omega
 have hD := zx2 (kj i j hg) hg hid he hda hba hG
 obtain ⟨F, -⟩ := zqn B hda hG
 obtain ⟨b1, b2⟩ := zkp hG hW.binv
 have w2 := (hW.given F b1 b2).deliver (i := i) (j := j) (by rw [F.js]; exact hg) he
 rw [e] at hD ⊢
 rw [F.js] at w2
 exact k2 _ (by rw [e]; exact hD) (w2.up (by omega) (by omega))
end
theorem zsx (hl : r.length ≤ 1000) (K : Q (.l 4 r) []) : PRun Tryz.prog 99 [] [.l 4 r] Q := by
 refine PRun.uncV (S99 ?_)
 have ap : zan [] r := by unfold zan; simp; omega
 cases r with
 | nil => exact ⟨K, ap, K⟩
 | cons a r => exact ⟨ap, K⟩
theorem glist_S {L : List Mk} (K : ∀ X, Q (.l 4 (L.map rM)) [.o X]) : PRun Tryz.prog 33 [.o (Ob.of (ze4 L))] [.r 0 0] Q := by
 refine PRun.pack (args := []) rfl ?_
 rintro M (⟨rfl, rfl⟩ | ⟨hl, m, hm, rfl⟩)
 · exact S33e (zsx (zzv _) ⟨rfl, _, fun M => M = [.c [.nl 4, .nm]], .refl _, rfl, K _⟩)
 · exact S33 (zsx (by rw [zy2]; omega) ⟨rfl, _, fun M => M = [.c [.w 1, .m 2], .x, .p (.a 2) 1 false m], .refl _, rfl, K _⟩)
theorem post_L4A {F : List (List U) → Ob → Prop} {X : Ob} : post [.L 4] [.A] F (.l 4 r) [.o X] = F r X := rfl
def o1 : Od := ⟨1, 1, 0, 1, 1, 1, 2, 0⟩
def o3 : Od := ⟨1, 1, 0, 1, 3, 1, 2, 0⟩
noncomputable def aw1 : Wk := (zsk (ktW 0) (wk0 0) 5 o1).2.2
noncomputable def aw2 : Wk := (zsk (ktW 0) aw1 6 o3).2.2
noncomputable def aw3 : Wk := latG 256 aw2 106
noncomputable def aw4 : Wk := (zuo (ktW 0) aw3 1).2
noncomputable def aw5 : Wk := (zuo (ktW 0) aw4 2).2
theorem aw_1 : zsk (ktW 0) (wk0 0) 5 o1 = (1, 0, aw1) := by kernel_rfl
theorem aw_1b : zsk (ktW 0) aw1 5 o1 = (0, 12, aw1) := by kernel_rfl
theorem aw_2 : zsk (ktW 0) aw1 6 o3 = (2, 0, aw2) := by kernel_rfl
theorem aw_3 : (aw2.js[0]?.map fun j => (j.fin, j.fee)) = some (25, 2) := by kernel_rfl
theorem aw_3b : (aw2.js.length, zcd aw2.Lg, aw1.T.all (fun t => decide (6 < t.1)), aw2.T.all (fun t => decide (6 < t.1))) = (2, 0, true, true) := by kernel_rfl
theorem aw_3c : zs5 (ktW 0) aw2 6 0 0 100 ⟨0, 0, 0, 0, 0, 0, 0, 0⟩ = ((106, 0, 0), aw3) := by kernel_rfl
theorem aw_4 : zuo (ktW 0) aw3 1 = (0, aw4) := by kernel_rfl
theorem aw_5 : zuo (ktW 0) aw4 2 = (0, aw5) := by kernel_rfl
theorem aw_6 : (zam ⟨1, 0, 1, 3⟩ aw4.b, aw5.Lg.length) = (20, 2) := by kernel_rfl
theorem aw8_run : PRun Tryz.prog 8 [] [] fun x m => x = .u (.b true) ∧ m = [] := by
 have hC := zxb 0
 have go : ∀ {s t : Wk}, nT s = t → ∀ {n : Nat}, WV (ktW 0) (6 + 16 * n) (1 + 300 * (n : Int)) s → W9 (ktW 0) s = W9 (ktW 0) t ∧ nT t = t ∧ WV (ktW 0) (6 + 16 * n) (1 + 300 * (n : Int)) t := fun {s t} h {n} hW => by
  subst h
  exact ⟨W9_nT.symm, nT_nT hW.wt, hW.nT⟩
 refine S8 ⟨zyi 0, ?_⟩
 refine zqi (s := wk0 0) (n := 0) (o := o1) hC (wk0_V 0) (by decide) (fun t ht => by simp [wk0] at ht) (fun e he h => ?_) fun x s1 h hW _ _ => ?_
 · exact absurd (congrArg (·.2.1) (h.symm.trans aw_1)) he
 obtain ⟨rfl, g⟩ := Prod.mk.inj (h.symm.trans aw_1)
 obtain ⟨e1, n1, W1⟩ := go (Prod.mk.inj g).2 hW
 rw [e1, zll]
 have t1 := congrArg (·.2.2.1) aw_3b
 refine zqi (s := aw1) (n := 1) (o := o1) (now := 5) hC W1 (by decide) (fun t ht => by have := of_decide_eq_true (z0d.1 t1 t ht); omega) (fun e he h => ?_) fun x s2 h _ _ _ => ?_
 rotate_left
 · rw [n1] at h; exact absurd (show (0 : Int) = 12 from congrArg (·.2.1) (h.symm.trans aw_1b)) (by decide)
 rw [n1] at h
 obtain rfl : e = 12 := congrArg (·.2.1) (h.symm.trans aw_1b)
 rw [zrv]
 refine zqi (s := aw1) (n := 1) (o := o3) (now := 6) hC W1 (by decide) (fun t ht => of_decide_eq_true (z0d.1 t1 t ht)) (fun e he h => ?_) fun x s2 h hW _ _ => ?_
 · rw [n1] at h; exact absurd (congrArg (·.2.1) (h.symm.trans aw_2)) he
 rw [n1] at h
 obtain ⟨rfl, g⟩ := Prod.mk.inj (h.symm.trans aw_2)
 obtain ⟨e2, n2, W2⟩ := go (Prod.mk.inj g).2 hW
 rw [e2, zll]
 have B2 := W2.wb hC (by omega) (by omega)
 have t2 : aw2.T.all (fun t => decide (6 < t.1)) = true := congrArg (·.2.2.2) aw_3b
 have hl2 : aw2.js.length = 2 := congrArg (·.1) aw_3b
 refine zqc (C := ktW 0) (s := aw2) B2.sh (by omega) (fun h => by omega) fun i j hg hid => ?_
 obtain rfl : i = 0 := by omega
 have hj := aw_3
 rw [hg] at hj
 obtain ⟨hj1, hj2⟩ := Prod.mk.inj (Option.some.inj hj)
 rw [zcb]
 refine wdo_S (C := ktW 0) (s := aw2) (n := 2) (kind := 0) (id := 0) (an := 100) (o := ⟨0, 0, 0, 0, 0, 0, 0, 0⟩) hC W2 (by decide) (by decide) (by decide) (by have := congrArg (·.2.1) aw_3b; simp only at this; omega) (fun t ht => of_decide_eq_true (z0d.1 t2 t ht)) fun now' x e s3 _ _ _ hW _ _ _ _ _ hG => ?_
 rw [n2] at hG
 obtain ⟨g, h3⟩ := Prod.mk.inj (hG.symm.trans aw_3c)
 obtain ⟨ga, gb⟩ := Prod.mk.inj g
 obtain ⟨gb, gc⟩ := Prod.mk.inj gb
 subst ga gb gc
 obtain ⟨e3, n3, W3⟩ := go h3 hW
 rw [e3, zif]
 rw [hj1, hj2]
 refine cEq (fun _ => ?_) fun h => absurd rfl h
 refine cEq (fun _ => ?_) fun h => absurd rfl h
 refine cEq (fun _ => ?_) fun h => absurd rfl h
 refine cEq (fun _ => ?_) fun h => absurd rfl h
 refine cEq (fun _ => ?_) fun h => absurd rfl h
 refine cEq (fun _ => ?_) fun h => absurd rfl h
 refine cEq (fun _ => ?_) fun h => absurd rfl h
 refine cEq (fun _ => ?_) fun h => absurd rfl h
 refine delG_S (s := aw3) (n := 3) hC W3 (by decide) (fun e he h => ?_) fun s4 h hW => ?_
 · rw [n3] at h; exact absurd (congrArg (·.1) (h.symm.trans aw_4)) he
 rw [n3] at h
 obtain ⟨e4, n4, W4⟩ := go (Prod.mk.inj (h.symm.trans aw_4)).2 hW
 rw [e4, zcn]
 refine cEq (fun _ => ?_) fun h => absurd rfl h
 refine qty_S (k := ⟨1, 0, 1, 3⟩) W4.binv.srt (by have := W4.blen; omega) ?_
 rw [zds, show zam ⟨1, 0, 1, 3⟩ aw4.b = 20 from congrArg (·.1) aw_6]
 refine cEq (fun _ => ?_) fun h => absurd rfl h
 refine delG_S (s := aw4) (n := 4) hC W4 (by decide) (fun e he h => ?_) fun s5 h hW => ?_
 · rw [n4] at h; exact absurd (congrArg (·.1) (h.symm.trans aw_5)) he
 rw [n4] at h
 obtain ⟨e5, n5, W5⟩ := go (Prod.mk.inj (h.symm.trans aw_5)).2 hW
 rw [e5, zcn]
 refine cEq (fun _ => ?_) fun h => absurd rfl h
 refine glist_S fun X => ?_
 rw [post_L4A, zy2, show aw5.Lg.length = 2 from congrArg (·.2) aw_6]
 exact ⟨rfl, rfl⟩
end
section
set_option maxRecDepth 1000000
variable {Q : V → Mem → Prop}
theorem znc (which : Int) (L : List Aw) : PRun Tryz.prog 3 [] [.i which, .l 11 (L.map eAw)] fun x m => x = .u (.b true) ∧ m = [] := by
 have hlen : ((L.map eAw).length : Int) = (L.length : Int) := by rw [zy2]
 have aw : PRun Tryz.prog 8 [] [] (post [.B] [] (fun b => ((fun (x : V) (m : Mem) => x = V.u (.b true) ∧ m = []) (.u (.b b)) [] : Prop))) := aw8_run.mono (by rintro _ _ ⟨rfl, rfl⟩; exact ⟨rfl, rfl⟩)
 refine S3 ⟨zyi which, ?_⟩
 rw [hlen]
 refine cIf (fun _ => aw) fun hL => ?_
 refine ⟨fun now x a1 a2 a3 a4 a5 a6 a7 a8 r1 r2 x8 r3 t X1 X2 r4 x9 X3 => ∃ (k : Nat) (s : Wk), x = (k : Int) ∧ (ktW which).ty = a1 ∧ (ktW which).bl.map eB = a2 ∧ (ktW which).pl = a3 ∧ (ktW which).bays.map eYb = a4 ∧ (ktW which).ch = a5 ∧ 200 = a6 ∧ 1 = a7 ∧ 500 = a8 ∧ s.js.map za6 = r1 ∧ s.p.map eT = r2 ∧ 562 = x8 ∧ s.b.map eT = r3 ∧ zfl s.b = t ∧ Ob.of (qS s.T 256 s.next) = X1 ∧ Ob.of (ze4 s.Lg) = X2 ∧ s.ds.map eD = r4 ∧ s.g = x9 ∧ Ob.of (zqw s.l) = X3 ∧
  k ≤ L.length ∧ WV (ktW which) (6 + 16 * k) (1 + 300 * (k : Int)) s ∧ 0 ≤ now ∧ now ≤ 255 * (k : Int) ∧ zcd s.Lg ≤ now ∧ ∀ t ∈ s.T, now < t.1,
  fun _ x _ _ _ _ _ _ _ _ _ _ _ _ _ _ _ _ _ _ => (L.length - x).toNat, ⟨0, wk0 which, rfl, rfl, rfl, rfl, rfl, rfl, rfl, rfl, rfl, rfl, rfl, rfl, rfl, rfl, rfl, rfl, rfl, rfl, rfl, zzv _, wk0_V which, zzk _, by decide, by show zcd [] ≤ 0; decide, fun t ht => by simp [wk0] at ht⟩, ?_⟩
 rintro now _ _ _ _ _ _ _ _ _ _ _ _ _ _ _ _ _ _ _ ⟨k, s, rfl, rfl, rfl, rfl, rfl, rfl, rfl, rfl, rfl, rfl, rfl, rfl, rfl, rfl, rfl, rfl, rfl, rfl, rfl, hk, hW, ht0, ht1, hl, hd⟩
 refine cIf (fun hlt => ?_) fun hge => ?_
 · have hlt : k < L.length := by omega
   have hg := zy0 hlt
   generalize L[k] = a at hg
   have el : ∀ {F : List U → Prop}, elL (L.map eAw) (k : Int) F = F (eAw a) := fun {F} => zah (by omega) (by rw [zzm, zy5, hg]; rfl)
   rw [el]
   simp only [eAw, ug0, ugs, zbs]
   refine wdo_S (C := ktW which) (s := s) (n := k) (o := a.o) (zxb which) hW (by omega) ht0 ht1 hl hd fun now' x e s' hn hn' _ hW' hl' hd' _ _ _ _ => ?_
   rw [zif]
   have ek : zyu .i64 ((k : Int) + 1) = ((k + 1 : Nat) : Int) := by rw [w64 (by omega) (by omega)]; omega
   rw [ek]
   exact ⟨⟨k + 1, s', by first | trivial | rfl, by first | trivial | rfl, by first | trivial | rfl, by first | trivial | rfl, by first | trivial | rfl, by first | trivial | rfl, by first | trivial | rfl, by first | trivial | rfl, by first | trivial | rfl, by first | trivial | rfl, by first | trivial | rfl, by first | trivial | rfl, by first | trivial | rfl, by first | trivial | rfl, by first | trivial | rfl, by first | trivial | rfl, by first | trivial | rfl, by first | trivial | rfl, by first | trivial | rfl, by omega, hW', by omega, hn', hl', hd'⟩, by first | omega | (dsimp only; omega)⟩
 have hkL : k ≤ 30 := by omega
 have B := hW.wb (zxb which) (by omega) (by omega)
 refine jobs_S (C := ktW which) (s := s) B.sh (by have := B.jlen; omega) ?_
 rw [zwg]
 refine ⟨fun now x a1 a2 a3 a4 a5 a6 a7 a8 r1 r2 x8 r3 t X1 X2 r4 x9 X3 => ∃ (j : Nat) (s1 : Wk), x = (j : Int) ∧ (ktW which).ty = a1 ∧ (ktW which).bl.map eB = a2 ∧ (ktW which).pl = a3 ∧ (ktW which).bays.map eYb = a4 ∧ (ktW which).ch = a5 ∧ 200 = a6 ∧ 1 = a7 ∧ 500 = a8 ∧ s1.js.map za6 = r1 ∧ s1.p.map eT = r2 ∧ 562 = x8 ∧ s1.b.map eT = r3 ∧ zfl s1.b = t ∧ Ob.of (qS s1.T 256 s1.next) = X1 ∧ Ob.of (ze4 s1.Lg) = X2 ∧ s1.ds.map eD = r4 ∧ s1.g = x9 ∧ Ob.of (zqw s1.l) = X3 ∧
  j ≤ 16 ∧ WV (ktW which) (6 + 16 * (k + j)) (1 + 300 * ((k + j : Nat) : Int)) s1 ∧ 0 ≤ now ∧ now ≤ 255 * ((k + j : Nat) : Int) ∧ zcd s1.Lg ≤ now ∧ (∀ t ∈ s1.T, now < t.1) ∧ Per s.js s1.js,
  fun _ x _ _ _ _ _ _ _ _ _ _ _ _ _ _ _ _ _ _ => (16 - x).toNat, ⟨0, s, rfl, rfl, rfl, rfl, rfl, rfl, rfl, rfl, rfl, rfl, rfl, rfl, rfl, rfl, rfl, rfl, rfl, rfl, rfl, zzv _, hW, ht0, ht1, hl, hd, Per.refl _⟩, ?_⟩
 rintro now2 _ _ _ _ _ _ _ _ _ _ _ _ _ _ _ _ _ _ _ ⟨j, s1, rfl, rfl, rfl, rfl, rfl, rfl, rfl, rfl, rfl, rfl, rfl, rfl, rfl, rfl, rfl, rfl, rfl, rfl, rfl, hj, hW1, ht10, ht11, hl1, hd1, hper⟩
 refine cIf (fun hlt => ?_) fun hge2 => ?_
 · refine wdo_S (C := ktW which) (s := s1) (n := k + j) (kind := 0) (id := 0) (an := 255) (o := ⟨0, 0, 0, 0, 0, 0, 0, 0⟩) (zxb which) hW1 (by omega) ht10 ht11 hl1 hd1 fun now' x e s' hn hn' _ hW' hl' hd' _ _ hp _ => ?_
   rw [zif]
   have ej : zyu .i64 ((j : Int) + 1) = ((j + 1 : Nat) : Int) := by rw [w64 (by omega) (by omega)]; omega
   rw [ej]
   exact ⟨⟨j + 1, s', by first | trivial | rfl, by first | trivial | rfl, by first | trivial | rfl, by first | trivial | rfl, by first | trivial | rfl, by first | trivial | rfl, by first | trivial | rfl, by first | trivial | rfl, by first | trivial | rfl, by first | trivial | rfl, by first | trivial | rfl, by first | trivial | rfl, by first | trivial | rfl, by first | trivial | rfl, by first | trivial | rfl, by first | trivial | rfl, by first | trivial | rfl, by first | trivial | rfl, by first | trivial | rfl, by omega, hW', by omega, hn', hl', hd', hper.trans (hp (.inl (by omega)))⟩, by first | omega | (dsimp only; omega)⟩
 have B1 := hW1.wb (zxb which) (by omega) (by omega)
 have hjl := B1.jlen
 refine jobs_S (C := ktW which) (s := s1) B1.sh (by omega) ?_
 rw [zwg]
 have hll : ((s1.js.map za6).length : Int) = ((s.js.map za6).length : Int) := by rw [zy2, zy2, hper.len]
 refine cNe (fun h => absurd hll h) fun _ => ?_
 have hlen2 : ((s1.js.map za6).length : Int) = (s1.js.length : Int) := by rw [zy2]
 refine ⟨fun x X => ∃ i : Nat, x = (i : Int) ∧ i ≤ s1.js.length ∧ Ob.of (ze4 s1.Lg) = X, fun x _ => (s1.js.length - x).toNat, ⟨0, rfl, zzv _, rfl⟩, ?_⟩
 rintro _ _ ⟨i, rfl, hi, rfl⟩
 rw [hlen2]
 refine cIf (fun hlt => ?_) fun _ => aw
 have hlt : i < s1.js.length := by omega
 obtain ⟨j1, hg1⟩ : ∃ j1, s1.js[i]? = some j1 := ⟨_, zy0 hlt⟩
 obtain ⟨j0, hg0⟩ : ∃ j0, s.js[i]? = some j0 := ⟨_, zy0 (show i < s.js.length by have := hper.len; omega)⟩
 have el1 : ∀ {F : List U → Prop}, elL (s1.js.map za6) (i : Int) F = F (za6 j1) := fun {F} => zah (by omega) (by rw [zzm, zy5, hg1]; rfl)
 have el0 : ∀ {F : List U → Prop}, elL (s.js.map za6) (i : Int) F = F (za6 j0) := fun {F} => zah (by omega) (by rw [zzm, zy5, hg0]; rfl)
 have ei : zyu .i64 ((i : Int) + 1) = ((i + 1 : Nat) : Int) := by rw [w64 (by omega) (by omega)]; omega
 have hid := (B1.jok i j1 hg1).2.1
 have hmk := hW1.mark i j1 hg1
 obtain ⟨j1', hg1', hp2, -⟩ := hper.all i j0 hg0
 rw [hg1] at hg1'
 cases hg1'
 -- one that ran when all were left alone, and was due, is ready
 have ran : j0.st = 2 → j0.fin ≤ now2 → j1.st = 4 ∧ j1.fin = j0.fin := fun h2 hf => by
  obtain ⟨hs, hfe⟩ := hp2 h2
  rcases hs with hs | hs
  · obtain ⟨t, ht, he⟩ := hW1.wt.has hg1 hs
    have := hd1 t ht
    have := congrArg Prod.fst he
    simp only at this
    omega
  · exact ⟨hs, hfe⟩
 have nxt : ∃ i' : Nat, ((i + 1 : Nat) : Int) = (i' : Int) ∧ i' ≤ s1.js.length ∧ Ob.of (ze4 s1.Lg) = Ob.of (ze4 s1.Lg) := ⟨i + 1, rfl, by omega, rfl⟩
 have hms : ((s1.js.length : Int) - ((i + 1 : Nat) : Int)).toNat < ((s1.js.length : Int) - (i : Int)).toNat := by omega
 rw [ei]
 refine of_S ?_
 rw [show ((i + 1 : Nat) : Int) = j1.id by omega]
 unfold ofR
 have hst : (1 ≤ j1.st ∧ j1.st ≤ 3) ∨ (j1.st = 4 ∨ j1.st = 5) ∨ j1.st = 6 := by
  have hok := (B1.jok i j1 hg1).1
  unfold jOk at hok
  rw [zyy] at hok
  have h2 := hok.2
  unfold jSt at h2
  split at h2
  · omega
  · split at h2
    · omega
    · split at h2
      · omega
      · split at h2
        · omega
        · cases h2
 rcases hst with h13 | h45 | h6
 · rw [hmk.2.2 h13]
   simp only
   rw [show noMk = mV (0, 0, 0, 0) from rfl, zlk]
   intro kk hkk
   have main : kk false := by
    refine hkk false ?_
    show elL (s1.js.map za6) (i : Int) _
    rw [el1]
    refine zup ?_
    rw [show (j1.st == 6) = false by simp; omega]
    show elL (s.js.map za6) (i : Int) _
    rw [el0]
    refine zup ?_
    refine cEq (fun h2 => ?_) fun _ => ?_
    rotate_left
    · exact ⟨⟨i + 1, by omega, by omega, by first | trivial | rfl⟩, by first | omega | (dsimp only; omega)⟩
    rw [el0]
    refine dJ14 ?_
    refine cIf (fun hf => ?_) fun _ => ?_
    rotate_left
    · exact ⟨⟨i + 1, by omega, by omega, by first | trivial | rfl⟩, by first | omega | (dsimp only; omega)⟩
    obtain ⟨hs, hfe⟩ := ran h2 hf
    omega
   rw [el1]
   refine zup (cEq (fun h4 => by omega) fun h4 => ?_)
   rw [el1]
   refine zup ?_
   rw [show (j1.st == 5) = false by simp; omega]
   exact main
 · rw [hmk.1 h45]
   simp only
   rw [zlk]
   intro kk hkk
   have main : kk true := by
    refine hkk true ?_
    simp only [cond_true, beq_self_eq_true, z0c, cond_false, bne_self_eq_false]
    rw [el1]
    refine dJ14 (cNe (fun h => absurd rfl h) fun _ => ?_)
    rw [el0]
    refine zup ?_
    refine cEq (fun h2 => ?_) fun _ => ?_
    rotate_left
    · exact ⟨⟨i + 1, by omega, by omega, by first | trivial | rfl⟩, by first | omega | (dsimp only; omega)⟩
    rw [el0]
    refine dJ14 ?_
    refine cIf (fun hf => ?_) fun _ => ?_
    rotate_left
    · exact ⟨⟨i + 1, by omega, by omega, by first | trivial | rfl⟩, by first | omega | (dsimp only; omega)⟩
    obtain ⟨hs, hfe⟩ := ran h2 hf
    rw [el1]
    refine zup (cNe (fun h => absurd hs h) fun _ => ?_)
    rw [el1]
    refine dJ14 ?_
    rw [el0]
    refine dJ14 ?_
    refine cNe (fun h => absurd hfe h) fun _ => ?_
    exact ⟨⟨i + 1, by omega, by omega, by first | trivial | rfl⟩, by first | omega | (dsimp only; omega)⟩
   rw [el1]
   refine zup (cEq (fun h4 => main) fun h4 => ?_)
   rw [el1]
   refine zup ?_
   rw [show (j1.st == 5) = true by simp; omega]
   exact main
 · obtain ⟨a, hm⟩ := hmk.2.1 h6
   rw [hm]
   simp only
   rw [zlk]
   intro kk hkk
   have main : kk false := by
    refine hkk false ?_
    show elL (s1.js.map za6) (i : Int) _
    rw [el1]
    refine zup ?_
    rw [show (j1.st == 6) = true by simpa using h6]
    show elL (s.js.map za6) (i : Int) _
    rw [el0]
    refine zup ?_
    refine cEq (fun h2 => ?_) fun _ => ?_
    rotate_left
    · exact ⟨⟨i + 1, by omega, by omega, by first | trivial | rfl⟩, by first | omega | (dsimp only; omega)⟩
    rw [el0]
    refine dJ14 ?_
    refine cIf (fun hf => ?_) fun _ => ?_
    rotate_left
    · exact ⟨⟨i + 1, by omega, by omega, by first | trivial | rfl⟩, by first | omega | (dsimp only; omega)⟩
    obtain ⟨hs, hfe⟩ := ran h2 hf
    omega
   rw [el1]
   refine zup (cEq (fun h4 => by omega) fun h4 => ?_)
   rw [el1]
   refine zup ?_
   rw [show (j1.st == 5) = false by simp; omega]
   exact main
theorem zmp {x0 : U} {rows1 : List (List U)} (sh0 : ShU (.i .i64 .nil) [x0]) (hl1 : rows1.length ≤ maxLen) (hs1 : ∀ r ∈ rows1, ShU dsW r) : PRun Tryz.prog 3 [] [.u x0, .l 11 rows1] fun v _ => v = .u (.b true) := by
 obtain ⟨n, _, h, -, -⟩ := sh0
 cases h
 obtain ⟨L, rfl⟩ := zyt hs1
 exact (znc n L).mono fun _ _ h => h.1
end
section
open Go.ChangeShapes Go.WideShapes Go.ChangeAt Go.RowKit
set_option maxRecDepth 100000 in
theorem zht (os : Os) (started : os.Started) (H : Type) (enc : TypeId × Value → H) :
 ReturnsInHanded {} Tryz.checked os 3 .any (Rows.worksEndSpec.pre6 enc Tryz.prog Tryz.f3 Rows.worksEndRow.domain false) (Rows.worksEndSpec.post enc Tryz.prog Tryz.f3 false true false false) := by
 refine returnsInHanded_of_change (C := Tryz.checked) Tryz.own started (by kernel_rfl) Tryz.func3
  (ChangeSpec.witness6 (enc := enc) (C := Tryz.checked) false ⟨#[], #[.int .i64 0, .slice none 0 0], []⟩ 8 (by kernel_rfl) (by kernel_rfl) (by kernel_rfl) (by kernel_rfl)) ?_
 intro W base args ds gs before hval0 hW hcnd _
 have hval : ∀ (j : Nat) t v, Tryz.f3.params[j]? = some t → args[j]? = some v → Value.okWide Tryz.prog W .any base t v := hval0
 have hW' := hW
 obtain ⟨p, q, hA0, hV, rfl, hfz, hnd⟩ := hW
 have hA : DataW.TrodAll enc Tryz.prog W 0 (fun _ => true) true Tryz.f3.params.toList args.toList ds p := hA0
 rw [Tryz.params3] at hA hval
 obtain ⟨v0, v1, d0, d1, p0, p1, rfl, rfl, rfl, h0, h1⟩ := trodAll_two hA
 obtain ⟨rfl, rfl⟩ := trodVars_none hV
 obtain ⟨us0, hr0, sh0⟩ := zny (ds := (.i .i64 .nil)) (by kernel_rfl) h0
 obtain ⟨x0, rfl⟩ : ∃ x, us0 = [x] := by obtain ⟨_, _, rfl, hh⟩ := sh0; obtain rfl : _ = [] := (by first | exact hh | exact hh.2); exact ⟨_, rfl⟩
 have hr0 : Rd (zo0 W.heap) v0 x0 := rd_int (hval 0 3 v0 rfl rfl) Tryz.underlying3 hr0
 obtain ⟨us1, hr1, sh1⟩ := zny (ds := (.l 11 (.i .i64 (.i .i64 (.i .i64 (.i .i64 (.i .i64 (.i .i64 (.i .i64 (.i .i64 (.i .i64 (.i .i64 (.i .i64 .nil))))))))))) .nil)) (by kernel_rfl) h1
 obtain ⟨a1, n1, c1, rfl⟩ := Go.WideShapes.okWide_slice Tryz.underlying22 (hval 1 22 v1 rfl rfl)
 obtain ⟨rows1, _, rfl, hl1, hs1, rfl⟩ := sh1
 clear hA0 hval0
 refine ((zmp sh0 hl1 hs1 (zo0 W.heap) [] [] [] W.heap _ (SAt.all W.heap) (.cons (.u hr0) (.cons (rp_slice hr1) (.nil)))).2 W rfl).mono ?_
 rintro e W' ⟨v, rfl, ⟨D', ρ', chs', x, m', le, M', hv, rfl⟩, hsm⟩
 obtain rfl : v = .bool true := by cases hv with | u h => cases h; rfl
 have hb := belowOf (St.kept le M'.st) hsm
 have hlt0 : ∀ x ∈ p0, x.block < W.heap.size := fun x hx => by simpa using hW'.lt x (by simp [hx])
 have hlt1 : ∀ x ∈ p1, x.block < W.heap.size := fun x hx => by simpa using hW'.lt x (by simp [hx])
 exact ⟨_, rfl, _, _, _, [], _, [], hW', trodAll_mk1 (shut_bool Tryz.underlying4 true), trodAll_mk2 (hb.trod Tryz.laidOut (by kernel_rfl) (of_decide_eq_true (by kernel_rfl)) h0 hlt0) (hb.trod Tryz.laidOut (by kernel_rfl) (of_decide_eq_true (by kernel_rfl)) h1 hlt1), rfl, hb.frame _, fun h => by cases h⟩
theorem zfh {a b : Bool} (h1 : a = true) (h2 : b = true) : (a && b) = true := by rw [h1, h2]; rfl
theorem zpe : (Rows.worksEndRow.wf (OpenSpec.ofChange Rows.worksEndSpec)) = true := by kernel_rfl
theorem zpd : (laidOutB Tryz.prog) = true := by kernel_rfl
theorem zpc : (mapsRowed Tryz.prog) = true := by kernel_rfl
theorem zpb : (Tryz.f3.params.all (Tryz.prog.readableRec ·)) = true := by kernel_rfl
theorem zpa : (namedTie Tryz.prog Rows.worksEndRow.named Rows.worksEndSpec.vars) = true := by kernel_rfl
theorem zo9 : ((Rows.worksEndRow.stops == [])) = true := by kernel_rfl
theorem zo8 : ((Tryz.prog.stops == [])) = true := by kernel_rfl
theorem zo7 : ((Rows.worksEndRow.knobs == [])) = true := by kernel_rfl
theorem zo6 : ((Tryz.prog.stopKnobs == [])) = true := by kernel_rfl
theorem zo5 : ((Rows.worksEndRow.inPlace == Tryz.prog.inPlace 3)) = true := by kernel_rfl
theorem znb : ((Rows.worksEndRow.unfollowed == Tryz.prog.unfollowed 3)) = true := by kernel_rfl
theorem zna : ((Rows.worksEndRow.recurses == Tryz.prog.recurses 3)) = true := by kernel_rfl
theorem zm9 : ((Rows.worksEndRow.named == Tryz.prog.varsNamed 3)) = true := by kernel_rfl
theorem zm8 : ((Rows.worksEndRow.maps == (Tryz.f3.params.toList ++ Rows.worksEndSpec.plain.varTypes Tryz.prog).any (Tryz.prog.mapsRec ·))) = true := by kernel_rfl
theorem zm7 : ((Rows.worksEndRow.ifaces == (Tryz.f3.params.toList ++ Rows.worksEndSpec.plain.varTypes Tryz.prog).any (Tryz.prog.ifacesRec ·))) = true := by kernel_rfl
theorem zm6 : ((Rows.worksEndRow.mapsOut == Tryz.prog.mapsAmong Tryz.f3.resultTypes.toList)) = true := by kernel_rfl
theorem zm5 : ((Rows.worksEndRow.loops == (Tryz.f3.params.toList ++ Rows.worksEndSpec.plain.varTypes Tryz.prog).any (Tryz.prog.loopsFrom ·))) = true := by kernel_rfl
theorem zm4 : ((Rows.worksEndRow.wideKeys == (Tryz.f3.params.toList ++ Rows.worksEndSpec.plain.varTypes Tryz.prog ++ Tryz.f3.resultTypes.toList).any (Tryz.prog.wideKeysFrom ·))) = true := by kernel_rfl
theorem zm3 : (Rows.worksEndSpec.vars.all (Tryz.prog.varReadable ·)) = true := by kernel_rfl
theorem zm2 : (Tryz.f3.resultTypes.all (fun t => Tryz.prog.readableRec t && decide (t < Tryz.prog.types.size))) = true := by kernel_rfl
theorem zm1 : ((Rows.worksEndRow.ifacesOut == Tryz.f3.resultTypes.toList.any (Tryz.prog.ifacesRec ·))) = true := by kernel_rfl
theorem zm0 : ((Rows.worksEndRow.loopsOut == Tryz.f3.resultTypes.toList.any (Tryz.prog.loopsFrom ·))) = true := by kernel_rfl
theorem zmz : ((Rows.worksEndRow.plainKeys == Tryz.prog.plainKeys)) = true := by kernel_rfl
theorem zmy : (Rows.worksEndRow.shortTexts.isNone) = true := by kernel_rfl
theorem zmx : (Tryz.prog.stopsHeard) = true := by kernel_rfl
theorem zmw : (Tryz.prog.mayEnter) = true := by kernel_rfl
theorem zmv : ((Rows.worksEndRow.lifted == Tryz.prog.liftsFinal)) = true := by kernel_rfl
theorem zmu : ((Tryz.prog.make == some Rows.worksEndRow.make)) = true := by kernel_rfl
theorem zmt : ((Rows.worksEndRow.kinds == (if Rows.worksEndRow.domain.isEmpty then [] else Tryz.f3.params.toList.map fun t => match Tryz.prog.underlying t with | some (.int k) => some k | _ => none))) = true := by kernel_rfl
theorem zms : ((Rows.worksEndRow.pinned == Rows.worksEndRow.pinnedBy)) = true := by kernel_rfl
theorem zmr : ((Rows.worksEndRow.veiled == (Tryz.f3.params.toList ++ Rows.worksEndSpec.plain.varTypes Tryz.prog ++ Tryz.f3.resultTypes.toList).any (Tryz.prog.veiledRec ·))) = true := by kernel_rfl
theorem zmq : (Rows.worksEndRow.veiledFits Tryz.prog Tryz.f3.params.toList (Tryz.f3.params.toList ++ Rows.worksEndSpec.plain.varTypes Tryz.prog ++ Tryz.f3.resultTypes.toList)) = true := by kernel_rfl
set_option maxRecDepth 100000 in
theorem zhu : joinedFacts Tryz.prog 3 Tryz.f3 Rows.worksEndSpec Rows.worksEndRow = true := (zfh (zfh (zfh (zfh (zfh (zfh (zfh (zfh (zfh (zfh (zfh (zfh (zfh (zfh (zfh (zfh (zfh (zfh (zfh (zfh (zfh (zfh (zfh (zfh (zfh (zfh (zfh (zfh (zfh (zfh (zfh zpe zpd) zpc) zpb) zpa) zo9) zo8) zo7) zo6) zo5) znb) zna) zm9) zm8) zm7) zm6) zm5) zm4) zm3) zm2) zm1) zm0) zmz) zmy) zmx) zmw) zmv) zmu) zmt) zms) zmr) zmq)
theorem worksEnd_holds : Rows.WorksEndSaid :=
 OpenClaim.holds_of_wide 3 Tryz.f3 rfl rfl rfl rfl rfl rfl rfl ⟨rfl, rfl, rfl, rfl, rfl⟩ rfl rfl rfl rfl rfl (by kernel_rfl) Tryz.func3 zhu
  (of_decide_eq_true (by kernel_rfl)) (by unfold Func.isWrapper; first | (rw [if_pos (by decide +kernel)]; kernel_rfl) | (rw [if_neg (by decide +kernel)]; exact ⟨rfl, rfl⟩))
  (fun os started H enc _ => zht os started H enc)
end
end Go.Proofs.YtacglpinmpncaaaGreat
