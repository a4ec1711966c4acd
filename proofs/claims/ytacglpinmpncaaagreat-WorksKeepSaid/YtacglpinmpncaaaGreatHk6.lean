/- Works: a job pauses, is ready, is resumed, is cancelled (Pause, Fire, Resume, Cancel). -/
import Derived.Test.YtacglpinmpncaaaGreatHk5
import Derived.Test.YtacglpinmpncaaaGreatProg
import Derived.Shelf.Spec.SlicesInsert
import Derived.Shelf.Spec.SlicesInsertGrow
import Derived.Test.YtacglpinmpncaaaGreatRows
import Derived.ProofKit
import Derived.Deep.SlicePairs
set_option linter.unusedVariables false
namespace Go.Proofs.YtacglpinmpncaaaGreat
variable {x : Bool} {d : Dr} {g : FuncId} {D : Fz} {bay e id j level n now runs types : Int} {a r : List (List U)} {F : List (List U) → Int → Prop} {mp : List (MK × List U)} {ds : List Dr} {l : List Int} {L : List Stk} {args : List V} {S : Mem → Prop} {ek i k : Nat} {X : Ob} {P : Program} {α : Type} {Q : V → Mem → Prop}
open _root_.Array renaming getElem?_modify → z2c, getElem?_push → z23, getElem?_push_size → z3j, length_toList → z2d, size_push → z3i, toArray_toList → z00, toList_append → z3w
open _root_.Bool renaming and_eq_true → zy9, and_true → z2a, eq_false_iff → z3k, false_eq_true → z08, not_eq_true' → zz5, not_true → z0p
open _root_.Int renaming add_mul_ediv_left → z3y, ediv_eq_zero_of_lt → z30, eq_ofNat_of_zero_le → z1f, le_refl → zzw, mul_ediv_add_emod → z3z, mul_le_mul → z15, mul_nonneg → z2y, natCast_nonneg → z1u, tdiv_eq_ediv_of_nonneg → z2w, toNat → zy8, toNat_natCast → zzs
open _root_.Go.IntKind renaming wrap → zy5
open _root_.List renaming all_cons → z1t, all_eq_true → z0o, all_nil → z2l, append_assoc → zzj, append_nil → zz7, cons_append → z0g, drop_append → z2s, drop_drop → z1j, drop_eq_nil_of_le → z05, drop_zero → z1k, eq_nil_of_length_eq_zero → z0v, ext_getElem? → z1l, filter_append → z2u, filter_cons_of_neg → z1h, filter_cons_of_pos → z17, flatten_append → zz4, flatten_cons → zzp, flatten_nil → z2t, getElem?_append_left → zzi, getElem?_append_right → zzz, getElem?_cons_zero → z28, getElem?_eq_getElem → zzb, getElem?_eq_none → z0z, getElem?_eq_none_iff → z3h, getElem?_eq_some_iff → zza, getElem?_map → zzg, getElem?_set_ne → zz0, getElem?_set_self → z0f, getElem?_take → z0y, getElem?_toArray → z0l, getElem_mem → z1x, length → zy6, length_append → zzx, length_cons → zzr, length_drop → z1w, length_filter_le → z0n, length_map → zzc, length_nil → z1a, length_set → z0b, length_take → zz9, map → zzq, map_append → zz2, map_cons → zzv, map_drop → z1s, map_map → z0k, map_nil → z1m, map_set → z1n, map_take → z1e, mem_append → zzh, mem_cons → zze, mem_cons_of_mem → zzy, mem_cons_self → zz1, mem_filter → z0r, mem_flatMap → z10, mem_iff_getElem? → z0e, mem_map → zz6, mem_of_getElem? → zzf, mem_of_mem_drop → z14, mem_or_eq_of_mem_set → z2h, mem_singleton → z03, nil_append → z0i, nodup_append → z1c, nodup_cons → z02, not_mem_nil → z07, pairwise_append → z3x, pairwise_cons → z0h, pairwise_map → z19, perm_append_comm_assoc → z0d, replicate → zzu, replicate_succ → z1y, set → zzm, size_toArray → z1b, take_add_one → z1g, take_append_drop → z0t, take_append_of_le_length → z2v, take_length → z0m, take_of_length_le → z06, take_succ_eq_append_getElem → z18
open _root_.Nat renaming add_assoc → z04, add_zero → z09, beq → zy7, ble → zzn, ble_eq_true_of_le → z1v, eq_of_beq_eq_true → zzd, exists_eq_add_of_le → z3v, le_of_ble_eq_true → z0c, le_refl → zzk, le_succ → z0u, lt_or_ge → z01, zero_add → zzo, zero_le → zz3
open _root_.Option renaming getD_some → z0j, isSome_iff_exists → z2x, map_eq_some_iff → z0q, map_some → z0s
section
set_option maxRecDepth 1000000
variable {Q : V → Mem → Prop}
def zih (x : K4) : List Stk → Tb → Tb
 | [], l => l
 | s :: r, l => zih x r (ze1 (bin x s.1) (zan (bin x s.1) l + s.2) l)
def zjo (d : Int) : List Stk → Int
 | [] => 0
 | s :: r => (if s.1 = d then s.2 else 0) + zjo d r
theorem zh7 {d : Int} : ∀ {L : List Stk}, (∀ s ∈ L, 0 ≤ s.2) → 0 ≤ zjo d L
 | [], _ => zzw _
 | s :: r, h => by
   have h1 := h s zz1
   have h2 := zh7 (d := d) (L := r) fun t ht => h t (zzy _ ht)
   simp only [zjo]; split <;> omega
structure PutI (x : K4) (N : Nat) (g : Tb) (r : List Stk) (lt : Tb) : Prop where
 inv : BInv lt
 len : lt.length + r.length ≤ N
 ok : ∀ s ∈ r, 1 ≤ s.1 ∧ s.1 ≤ 32 ∧ 1 ≤ s.2
 top : ∀ d, tyQ d lt + zjo d r ≤ 1125899906842624
 go : zih x r lt = g
theorem PutI.step {x : K4} {N : Nat} {g lt : Tb} {q : Stk} {r : List Stk} (h : PutI x N g (q :: r) lt) (hx : isB (bin x 1) = true) : PutI x N g r (ze1 (bin x q.1) (zan (bin x q.1) lt + q.2) lt) := by
 have hq := h.ok q zz1
 have hb := zgt hx ⟨hq.1, hq.2.1⟩
 have hr : ∀ s ∈ r, 0 ≤ s.2 := fun s hs => by have := h.ok s (zzy _ hs); omega
 have htop := h.top q.1
 simp only [zjo, if_true] at htop
 have hnn := zh7 (d := q.1) hr
 refine ⟨h.inv.set (n := q.2) hb (by have := (h.inv.val (bin x q.1)).1; omega) (by simp only; omega), ?_, fun s hs => h.ok s (zzy _ hs), fun d => ?_, h.go⟩
 · have := zhv (k := bin x q.1) (v := zan (bin x q.1) lt + q.2) (l := lt)
   have := h.len
   simp only [zzr] at this
   omega
 · have ht := h.top d
   simp only [zjo] at ht
   unfold tyQ at ht ⊢
   rw [zd3 h.inv.srt]
   by_cases e : q.1 = d
   · rw [if_pos e] at ht
     simp only [bin, e, beq_self_eq_true, if_true]
     simp only [e] at *
     omega
   · rw [if_neg e] at ht
     have : ((bin x q.1).d == d) = false := by simpa [bin] using e
     rw [this]
     simp only [z08, if_false]
     omega
theorem PutI.put {x : K4} {N : Nat} {g lt : Tb} {q : Stk} {r : List Stk} (h : PutI x N g (q :: r) lt) (hx : isB (bin x 1) = true) (hN : N ≤ 900000) (K : Q (.i 0) [bK (ze1 (bin x q.1) (zan (bin x q.1) lt + q.2) lt)]) :
 PRun Tryz.prog 205 [bK lt] [.r 0 0, kV (bin x q.1), .i q.2] Q := by
 have hq := h.ok q zz1
 have hb := zgt hx ⟨hq.1, hq.2.1⟩
 have hr : ∀ s ∈ r, 0 ≤ s.2 := fun s hs => by have := h.ok s (zzy _ hs); omega
 have htop := h.top q.1
 simp only [zjo, if_true] at htop
 have hnn := zh7 (d := q.1) hr
 have hl := h.len
 refine put_B h.inv (by omega) (fun hc => ?_) (fun _ _ hc => ?_) fun _ _ _ => K
 · rcases hc with hc | hc
   · rw [hb] at hc; cases hc
   · omega
 · simp only at hc; omega
theorem zj5 {f : K4 → Bool} {p : K4 → Bool} : ∀ (l : Tb), zd4 f (l.filter fun r => p r.1) + zd4 f (l.filter fun r => !p r.1) = zd4 f l
 | [] => rfl
 | r :: l => by
   have ih := zj5 (f := f) (p := p) l
   by_cases hp : p r.1
   · rw [z17 (p := fun r : K4 × Int => p r.1) hp, z1h (p := fun r : K4 × Int => !p r.1) (by simp [hp])]
     simp only [zd4]; omega
   · rw [z1h (p := fun r : K4 × Int => p r.1) hp, z17 (p := fun r : K4 × Int => !p r.1) (by simp [hp])]
     simp only [zd4]; omega
theorem zrj (d : Int) : ∀ l : Tb, zjo d (l.map fun r => (r.1.d, r.2)) = tyQ d l
 | [] => rfl
 | r :: l => by
   have := zrj d l
   unfold tyQ at *
   simp only [zzv, zjo, zd4, this]
   by_cases e : r.1.d = d
   · rw [if_pos e, if_pos (by simpa using e)]
   · rw [if_neg e, if_neg (by simpa using e)]
theorem zpq (x : K4) (l : Tb) (d : Int) : tyQ d (rmv x l) + zjo d (zha x l) = tyQ d l := by
 unfold zha
 rw [zrj]
 unfold tyQ rmv
 have := zj5 (f := fun k => k.d == d) (p := zhr x) l
 omega
theorem zrw {x to : K4} {l : Tb} (h : BInv l) : PutI to l.length (zih to (zha x l) (rmv x l)) (zha x l) (rmv x l) where
 inv := h.rmv x
 len := by
  unfold rmv zha
  rw [zzc]
  have hl : ∀ m : Tb, (m.filter fun r => !zhr x r.1).length + (m.filter fun r => zhr x r.1).length ≤ m.length := by
   intro m
   induction m with
   | nil => exact zzk _
   | cons r m ih =>
     simp only [List.filter_cons, zzr]
     cases zhr x r.1 <;> simp <;> omega
  exact hl l
 ok s hs := by
  have hk := h.key _ (zmr hs)
  have hd := zqp hk.1
  exact ⟨hd.1, hd.2, hk.2⟩
 top d := by rw [zpq]; exact h.top d
 go := rfl
theorem zrv {x : K4} {N : Nat} {g : Tb} (hx : isB (bin x 1) = true) : ∀ {r : List Stk} {lt : Tb}, PutI x N g r lt → BInv g ∧ g.length ≤ N
 | [], lt, h => by
   have e : lt = g := h.go
   subst e
   exact ⟨h.inv, by have := h.len; simpa using this⟩
 | q :: r, lt, h => zrv hx (h.step hx)
theorem zwe {l : Tb} {place : Int} {to : K4} (h : BInv l) (hl : l.length ≤ 900000) (hid : 1 ≤ id ∧ id < 1048576) (hp : 1 ≤ place ∧ place ≤ 8) (hto : to.c = place) (hx : isB (bin to 1) = true)
 (K : Q (.i 0) [bK (zih to (zha (vK id place) l) (rmv (vK id place) l))]) : PRun Tryz.prog 109 [bK l] [.r 0 0, .i 1, .i id, .i place, kV to] Q := by
 refine S109 (cNe (fun hc => absurd hto hc) fun _ => ?_)
 refine put_B (k := bin to 1) h (by omega) (fun hb => ?_) (fun _ _ hb => ?_) fun _ _ _ => ?_
 · rcases hb with hb | hb
   · rw [hx] at hb; cases hb
   · omega
 · have := h.top (bin to 1).d; omega
 show (bif ((0 : Int) != 0) then Q (.i 1) [bK l] else PRun _ _ _ _ _ : Prop)
 refine cNe (fun h => absurd rfl h) fun _ => zo9 h hl hid hp ?_
 have P0 := zrw (x := vK id place) (to := to) h
 have hno : (zha (vK id place) l).length ≤ l.length := by unfold zha; rw [zzc]; exact z0n _ _
 show (∃ (I1 : Int → List (List U) → List Int → Int → Int → Int → Int → Prop) (f1 : Int → List (List U) → List Int → Int → Int → Int → Int → Nat), _)
 refine ⟨fun x l' a' x4 x5 x6 x7 => SufI (zha (vK id place) l) (fun r => ∃ lt, lt.map eT = l' ∧ zfl lt = a' ∧ to.a = x4 ∧ to.b = x5 ∧ to.c = x6 ∧ PutI to l.length (zih to (zha (vK id place) l) (rmv (vK id place) l)) r lt) x, fun x _ _ _ _ _ _ => zpl (zha (vK id place) l) x, .zero (by omega) ⟨_, rfl, rfl, rfl, rfl, rfl, P0⟩, ?_⟩
 rintro x _ _ _ _ _ x7 ⟨r, s, lt, rfl, rfl, rfl, rfl, rfl, hP⟩
 cases r with
 | nil =>
   rw [s.d0, cond_false]
   have e : lt = zih to (zha (vK id place) l) (rmv (vK id place) l) := hP.go
   rw [← e] at K
   exact K
 | cons q r =>
   simp only [s.d1, s.el, eS, ug0, ugs, zbo, cond_true]
   exact hP.put hx (by omega) (s.step ⟨_, by first | trivial | rfl, by first | trivial | rfl, by first | trivial | rfl, by first | trivial | rfl, by first | trivial | rfl, hP.step hx⟩)
theorem zh6 {x : K4} : ∀ {L : List Stk} {l : Tb}, Srt l → (L.Pairwise fun a b => a.1 < b.1) → (∀ s ∈ L, s.2 ≤ zan (bin x s.1) l) → ∃ l', zb9 x L l = some l' ∧ (∀ k, zan k l' = if zhr x k then zan k l - zjo k.d L else zan k l) ∧ ∀ d, tyQ d l' = tyQ d l - zjo d L
 | [], l, _, _, _ => ⟨l, rfl, fun k => by simp [zjo], fun d => by simp [zjo]⟩
 | q :: r, l, hs, hpw, h => by
   have hq := h q zz1
   have hpw2 := z0h.1 hpw
   obtain ⟨l', h1, h2, h3⟩ := zh6 (x := x) (L := r) (l := ze1 (bin x q.1) (zan (bin x q.1) l + -q.2) l) (zhu hs) hpw2.2 fun s hs' => by
    rw [zna _ hs, if_neg fun e => ?_]
    · exact h s (zzy _ hs')
    · have := hpw2.1 s hs'
      have e' : s.1 = q.1 := congrArg K4.d e
      omega
   refine ⟨l', by simp only [zb9]; rw [if_pos hq]; exact h1, fun k => ?_, fun d => ?_⟩
   · rw [h2, zna _ hs]
     simp only [zjo]
     by_cases hk : zhr x k = true
     · rw [if_pos hk, if_pos hk]
       by_cases e : q.1 = k.d
       · rw [if_pos e, if_pos (by rw [inDv_iff.1 hk, e]), inDv_iff.1 hk, e]; simp only [bin]; omega
       · rw [if_neg e, if_neg (fun e2 => e (by rw [e2])), Int.zero_add]
     · rw [if_neg hk, if_neg hk, if_neg (fun e => hk (by rw [e]; exact inDv_iff.2 rfl))]
   · rw [h3]
     simp only [zjo]
     unfold tyQ
     rw [zd3 hs]
     by_cases e : q.1 = d
     · rw [if_pos e, if_pos (by simpa [bin] using e)]; omega
     · rw [if_neg e, if_neg (by simpa [bin] using e)]; omega
theorem zru {x : K4} : ∀ {L : List Stk} {l : Tb}, BInv l → isB (bin x 1) = true → (∀ s ∈ L, 1 ≤ s.1 ∧ s.1 ≤ 32 ∧ 1 ≤ s.2) → (∀ d, tyQ d l + zjo d L ≤ 1125899906842624) → zjr x L l = some (zih x L l)
 | [], l, _, _, _, _ => rfl
 | q :: r, l, hi, hx, hok, h => by
   have P0 : PutI x (l.length + (q :: r).length) (zih x (q :: r) l) (q :: r) l := ⟨hi, zzk _, hok, h, rfl⟩
   have P1 := P0.step hx
   simp only [zjr]
   have hq := h q.1
   simp only [zjo, if_true] at hq
   have hnn := zh7 (d := q.1) (L := r) fun s hs => by have := hok s (zzy _ hs); omega
   rw [if_pos (by omega)]
   exact zru P1.inv hx P1.ok P1.top
theorem zjc (h : zfg L types = 0) : L.Pairwise fun a b => a.1 < b.1 := by
 have h1 : zpd types 0 L = true := by
  unfold zfg at h
  split at h
  · rename_i hh; exact hh.1
  · cases h
 have : ∀ (l : List Stk) (last : Int), zpd types last l = true → (∀ s ∈ l, last < s.1) ∧ l.Pairwise fun a b => a.1 < b.1 := by
  intro l
  induction l with
  | nil => intro _ _; exact ⟨fun s hs => by simp at hs, .nil⟩
  | cons a l ih =>
    intro last hc
    simp only [zpd, zy9, decide_eq_true_eq] at hc
    obtain ⟨i1, i2⟩ := ih a.1 hc.2
    refine ⟨fun s hs => ?_, z0h.2 ⟨i1, i2⟩⟩
    rcases zze.1 hs with rfl | hs
    · omega
    · have := i1 s hs; omega
 exact (this L 0 h1).2
theorem zaz {F : Int → List (List U) → List Int → Prop} {a : List Int} : post [.I] [.c [.l 5, .n 33]] F (.i e) [.c [.l 5 r, .n .i64 33 a]] = F e r a := rfl
theorem lock_B {l : Tb} {fr : K4} (h : BInv l) (hl : l.length ≤ 800000) (hid : 1 ≤ id ∧ id < 1048576) (hL : L.length ≤ 1000) (hx : isB (bin fr 1) = true) (hc : zfg L 32 = 0) (hlie : ∀ s ∈ L, s.2 ≤ zan (bin fr s.1) l)
 (K : ∀ l1, zb9 fr L l = some l1 → BInv l1 → BInv (zih (vK id fr.c) L l1) → (zih (vK id fr.c) L l1).length ≤ l.length + 2 * L.length → Q (.i 0) [bK (zih (vK id fr.c) L l1)]) : PRun Tryz.prog 87 [bK l] [.r 0 0, kV fr, .i 1, .i id, .l 2 (L.map eS)] Q := by
 obtain ⟨l1, ht, hval, hty⟩ := zh6 h.srt (zjc hc) hlie
 have hm := zm8 hc
 refine S87 (zqa hid ?_)
 rw [zb5]
 refine cNe (fun h => absurd rfl h) fun _ => znx h (by omega) hL (fun hb => ?_) (fun _ _ hb => ?_) fun l' _ _ hb hi hln => ?_
 · rcases hb with hb | hb
   · rw [hx] at hb; cases hb
   · exact absurd hc hb
 · rw [ht] at hb; cases hb
 rw [ht] at hb
 cases hb
 rw [zaz]
 refine cNe (fun h => absurd rfl h) fun _ => at_S ?_
 show PRun _ _ _ _ _
 have hxv : isB (bin (vK id fr.c) 1) = true := by
  simp only [isB, zy9, decide_eq_true_eq] at hx ⊢
  unfold vO
  omega
 have hput := zru (x := vK id fr.c) (L := L) hi hxv (fun s hs => by have := hm s hs; omega) fun d => by rw [hty]; have := h.top d; omega
 refine putAll_B (x := vK id fr.c) hi (by omega) hL (fun hb => ?_) (fun _ _ hb => ?_) fun l2 _ _ hb hi2 hln2 => ?_
 · rcases hb with hb | hb
   · rw [hxv] at hb; cases hb
   · exact absurd hc hb
 · rw [hput] at hb; cases hb
 rw [hput] at hb
 cases hb
 rw [zaz]
 exact cNe (fun h => absurd rfl h) fun _ => K l1 ht hi hi2 (by omega)
end
section
variable {P : Program} {D D' : Fz} {ρ ρ' : List Loc} {m m' : Mem} {chs C : List zac} {h h' : zaf} {ro hr : List Nat}
def zod : Mem → List Nat → List AB → Mem
 | m, j :: js, a :: al => zod (ms m j a) js al
 | m, _, _ => m
theorem zoc : ∀ (js : List Nat) (al : List AB) (m : Mem), (zod m js al).length = m.length
 | [], al, m => by cases al <;> rfl
 | j :: js, [], m => rfl
 | j :: js, a :: al, m => by simp only [zod]; rw [zoc js al, zb2]
theorem zw5 : ∀ {js : List Nat} {al : List AB} {cs : List zac} {m : Mem} {c : List zac}, js.length = al.length → cs.length = al.length → SAt D ρ m c (cs ++ C) h → js.Nodup →
 (∀ (i j : Nat) (a : AB) (ch : zac), js[i]? = some j → al[i]? = some a → cs[i]? = some ch → j < m.length ∧ ∃ L, ρ[j]? = some L ∧ Ent D ρ L a ch) →
 ∃ c', SAt D ρ (zod m js al) c' C h ∧ ∀ b, b ∉ js → c'[b]? = c[b]? ∧ mg (zod m js al) b = mg m b
 | [], [], cs, m, c, h1, h2, M, hn, he => by
   have : cs = [] := z0v (by simpa using h2)
   subst this
   exact ⟨c, M, fun b _ => ⟨rfl, rfl⟩⟩
 | j :: js, a :: al, ch :: cs, m, c, h1, h2, M, hn, he => by
   obtain ⟨hj, L, hL, hE⟩ := he 0 j a ch rfl rfl rfl
   have M2 : SAt D ρ (ms m j a) (c.set j ch) (cs ++ C) h := M.over hj hL hE
   have hn2 := z02.1 hn
   obtain ⟨c', M3, g⟩ := zw5 (js := js) (al := al) (cs := cs) (by simpa using h1) (by simpa using h2) M2 hn2.2 fun i j' a' ch' q1 q2 q3 => by
    obtain ⟨w1, w2⟩ := he (i + 1) j' a' ch' (by simpa using q1) (by simpa using q2) (by simpa using q3)
    exact ⟨by rw [zb2]; exact w1, w2⟩
   refine ⟨c', M3, fun b hb => ?_⟩
   simp only [zze, not_or] at hb
   obtain ⟨g1, g2⟩ := g b hb.2
   refine ⟨by rw [g1, zz0 (Ne.symm hb.1)], ?_⟩
   simp only [zod]
   rw [g2, zbg (Ne.symm hb.1)]
 | [], _ :: _, _, _, _, h1, _, _, _, _ => by simp at h1
 | _ :: _, [], _, _, _, h1, _, _, _, _ => by simp at h1
 | _ :: _, _ :: _, [], _, _, _, h2, _, _, _ => by simp at h2
def fK (ix : List Nat) (n i : Nat) : Nat := cond (zzn (i + 1) ix.length) (ztt ix i) (n + (i - ix.length))
def backM (m : Mem) (ix : List Nat) (M' : Mem) : Mem :=
 zod (zct m ix ++ zzu (M'.length - ix.length) .x) (ix ++ List.range' m.length (M'.length - ix.length)) (M'.map (zpj (fK ix m.length)))
theorem fK_lt {ix : List Nat} {n b : Nat} (h : ix[i]? = some b) : fK ix n i = b := by
 have : i < ix.length := by
  rcases z01 i ix.length with h1 | h1
  · exact h1
  · rw [z0z h1] at h; cases h
 unfold fK
 rw [z1v this, cond_true]
 exact zmh h
theorem fK_ge {ix : List Nat} {n : Nat} : fK ix n (ix.length + k) = n + k := by
 unfold fK
 have : zzn (ix.length + k + 1) ix.length = false := by
  cases e : zzn (ix.length + k + 1) ix.length with
  | false => rfl
  | true => have := z0c e; omega
 rw [this, cond_false]; omega
def KnP (P : Program) (ro : List Nat) (g : FuncId) (args : List V) (m : Mem) (K : V → Mem → Prop) : Prop :=
 ∃ (ix : List Nat) (R : V) (M' : Mem), ix.Nodup ∧ (∀ b ∈ ix, b < m.length ∧ b ∉ ro) ∧ (∀ b ∈ ix, ∀ c ∈ zbb (mg m b), c ∈ ix) ∧ (∀ b ∈ zag args, b ∈ ix) ∧
   PRun P g (zly m ix) (zd1 (fun b => zjt ix b 0) args) (fun x m' => x = R ∧ m' = M') ∧ K (zcm (fK ix m.length) R) (backM m ix M')
theorem xs_S : ∀ (k : Nat) {ρ : List Loc} {m : Mem} {chs C : List zac} {s : List Loc}, SAt D ρ m chs C h → s.length = k → SAt D (ρ ++ s) (m ++ zzu k .x) (chs ++ zzu k []) C h
 | 0, ρ, m, chs, C, s, M, hs => by
   have : s = [] := z0v hs
   subst this
   simpa using M
 | k + 1, ρ, m, chs, C, [], M, hs => by simp at hs
 | k + 1, ρ, m, chs, C, L :: s, M, hs => by
   have M1 : SAt D (ρ ++ [L]) (m ++ [.x]) (chs ++ [[]]) C h := SAt.push (ch := []) ⟨M.len, M.lch, M.ent, by
    have := M.st
    refine this.perm ?_
    simp⟩ .x
   have := xs_S k (s := s) M1 (by simpa using hs)
   simpa [zzj, z1y] using this
theorem zqi {X : Fz → List Loc → Prop} {KS : V → Mem → Prop} (hs : KnP P (hr ++ ro) g args m KS) {vs : List Value} (M : SAt D ρ m chs C h) (ha : RpL D ρ vs args) : Run P g vs h (zc0 ro hr D ρ m chs C KS) := by
 obtain ⟨ix, R, M', hnd, hb, hcl, har, hrun, hK⟩ := hs
 obtain ⟨c', cs, hcs, Mk, gk, Ms⟩ := M.sub2 hnd (fun b h => (hb b h).1) hcl
 have ra' := (ren_all (D := D) (ρ := ρ) (f := fun b => zjt ix b 0) (ρ' := ix.map fun b => (ρ[b]?).getD ⟨0, none, 0, 0, none⟩)).2.1 ha fun b hb L hL => by
  obtain ⟨k, h4, h5⟩ := zet (k := 0) (har b hb)
  rw [h4, zzo, zzg, h5, z0s, hL]; rfl
 refine (hrun D _ cs (c' ++ C) h vs Ms ra').mono ?_
 rintro v h' ⟨D2, s, cs2, x, m', le, Ms2, hv, rfl, rfl⟩
 -- al many blocks al places
 have l1 := Ms2.len
 have l2 := Ms2.lch
 simp only [zzx, zzc] at l1
 have hk : m'.length - ix.length = s.length := by omega
 have Mk2 : SAt D2 ρ (zct m ix) c' (cs2 ++ C) h' := ⟨Mk.len, Mk.lch, fun i L ab ch q1 q2 q3 => by have := (Mk.ent i L ab ch q1 q2 q3).mono le (s := []); rwa [zz7] at this, Ms2.st.perm (by
  simp only [zz4]
  exact z0d _ _ _)⟩
 have Mx := xs_S (m'.length - ix.length) (s := s) Mk2 hk.symm
 have lm : (zct m ix).length = m.length := zf0 _ _
 have fin : ∀ {i : Nat} {L : Loc}, ((ix.map fun b => (ρ[b]?).getD ⟨0, none, 0, 0, none⟩) ++ s)[i]? = some L → (ρ ++ s)[fK ix m.length i]? = some L := by
  intro i L hL
  rcases z01 i ix.length with hi | hi
  · have e := zzb hi
    rw [zzi (by simpa using hi), zzg, e, z0s] at hL
    rw [fK_lt e]
    have hlt : ix[i] < ρ.length := by rw [M.len]; exact (hb _ (z1x hi)).1
    rw [zzi hlt, zzb hlt]
    rw [zzb hlt, z0j] at hL
    exact hL
  · obtain ⟨k, rfl⟩ := z3v hi
    rw [zzz (by simp)] at hL
    rw [fK_ge, zzz (by rw [M.len]; omega)]
    have e1 : m.length + k - ρ.length = k := by rw [M.len]; omega
    have e2 : ix.length + k - (ix.map fun b => (ρ[b]?).getD ⟨0, none, 0, 0, none⟩).length = k := by simp
    rw [e2] at hL
    rw [e1]; exact hL
 have hjs : ∀ (i j : Nat), (ix ++ List.range' m.length (m'.length - ix.length))[i]? = some j → i < m'.length ∧ j = fK ix m.length i ∧ j < m.length + (m'.length - ix.length) := by
  intro i j hj
  rcases z01 i ix.length with hi | hi
  · rw [zzi hi] at hj
    exact ⟨by omega, (fK_lt hj).symm, by have := (hb j (zzf hj)).1; omega⟩
  · obtain ⟨k, rfl⟩ := z3v hi
    rw [zzz (by omega)] at hj
    have hk2 : ix.length + k - ix.length < m'.length - ix.length := by
     rcases z01 (ix.length + k - ix.length) (m'.length - ix.length) with q | q
     · exact q
     · rw [z0z (by simpa using q)] at hj; cases hj
    rw [List.getElem?_range' hk2] at hj
    simp only [Option.some.injEq] at hj
    rw [fK_ge]
    omega
 obtain ⟨c2, M3, g3⟩ := zw5 (js := ix ++ List.range' m.length (m'.length - ix.length)) (al := m'.map (zpj (fK ix m.length))) (cs := cs2) (by simp; omega) (by simp [l2]) Mx (by
  refine z1c.2 ⟨hnd, List.nodup_range', ?_⟩
  intro a ha b hb2 e
  subst e
  have := (hb a ha).1
  have := List.mem_range'_1.1 hb2
  omega) fun i j a ch q1 q2 q3 => by
  obtain ⟨hi, rfl, hlt⟩ := hjs i j q1
  refine ⟨by simp only [zzx, List.length_replicate, lm]; exact hlt, ?_⟩
  simp only [zzg] at q2
  obtain ⟨a0, ha0, rfl⟩ := z0q.1 q2
  have hiL : i < ((ix.map fun b => (ρ[b]?).getD ⟨0, none, 0, 0, none⟩) ++ s).length := by simp; omega
  have e := zzb hiL
  exact ⟨_, fin e, (Ms2.ent i _ a0 ch e ha0 q3).ren fun b _ L hL => fin hL⟩
 have hv3 := (ren_all (D := D2) (f := fK ix m.length) (ρ' := ρ ++ s)).1 hv fun b _ L hL => fin hL
 refine ⟨D2, ρ ++ s, _, c2, _, ⟨le, ⟨s, rfl⟩, fun b h1 h2 => ?_, fun b h1 h2 => ?_, ?_⟩, M3, hv3, hK⟩
 · have hni : b ∉ ix := fun hbi => (hb b hbi).2 (zzh.2 (.inl (inL_iff.1 h1)))
   have hnj : b ∉ ix ++ List.range' m.length (m'.length - ix.length) := by
    intro hh
    rcases zzh.1 hh with q | q
    · exact hni q
    · have := List.mem_range'_1.1 q; omega
   rw [(g3 b hnj).1, zzi (by rw [Mk.lch, lm]; exact h2), (gk b hni).1]
 · have hni : b ∉ ix := fun hbi => (hb b hbi).2 (inL_iff.1 h1)
   have hnj : b ∉ ix ++ List.range' m.length (m'.length - ix.length) := by
    intro hh
    rcases zzh.1 hh with q | q
    · exact hni q
    · have := List.mem_range'_1.1 q; omega
   have := (g3 b hnj).2
   show mg (zod _ _ _) b = _
   rw [this, zkl (by rw [lm]; exact h2), (gk b hni).2]
 · rw [zoc]
   simp only [zzx, lm]; omega
end
section
variable {P : Program} {g : FuncId} {m : Mem} {args : List V}
theorem PRun.drop (b : Nat) (h : PRun P g m args fun x m' => Q x (ms m' b .x)) : PRun P g m args Q :=
 fun D ρ chs C hp vs M F => (h D ρ chs C hp vs M F).mono fun _ _ ⟨D', ρ', chs', x, m', a, b', c, d⟩ => ⟨D', ρ', chs'.set b [], x, ms m' b .x, a, b'.drop b, c, d⟩
end
def orP (x y : Option Prop) : Option Prop :=
 match x with
 | some p => some p
 | none => y
def SP.or {P : Program} (A B : SP P) : SP P where
 f ro call g args m K := orP (A.f ro call g args m K) (B.f ro call g args m K)
 ok := by
  intro ro hr X call hX hcall g args m KS p hs hp D ρ chs C h vs xx M ha
  unfold orP at hs
  split at hs
  · rename_i q hq
    cases hs
    exact A.ok hX hcall hq hp xx M ha
  · exact B.ok hX hcall hs hp xx M ha
section
variable {P : Program}
def zqb (ro : List Nat) : List Nat → Bool
 | [] => true
 | b :: l => !inL ro b && zqb ro l
theorem zio {ro : List Nat} : ∀ {l : List Nat}, zqb ro l = true → ∀ b ∈ l, b ∉ ro
 | [], _, b, hb => by simp at hb
 | x :: l, h, b, hb => by
   simp only [zqb, zy9, zz5] at h
   rcases zze.1 hb with rfl | hb
   · exact fun hh => by rw [inL_iff.2 hh] at h; cases h.1
   · exact zio h.2 b hb
theorem PRun.undat {m : Mem} (h : PRun P g (zyf m) args Q) : PRun P g m args Q :=
 fun D ρ chs C hp vs M F => h D ρ chs C hp vs M.dat F
def kcP (P : Program) (F : FuncId) (X : V) (T : Mem) (ro : List Nat) (args : List V) (m : Mem) (K : V → Mem → Prop) (ix : List Nat) : Option Prop :=
 cond (zfh m.length ix && (zqb ro ix && (zdz ix (ix.flatMap fun b => zbb (mg m b)) && zdz ix (zag args))))
  (some (PRun P F (zyf (zly m ix)) (zd1 (fun b => zjt ix b 0) args) (fun x m => x = X ∧ m = T) ∧ K (zcm (fK ix m.length) X) (backM m ix T))) (some False)
def zvn (F : FuncId) (X : V) (T : Mem) : SP P where
 f ro _ g args m K := cond (zy7 g F) (kcP P F X T ro args m K (clo m 1000 (zag args) [])) none
 ok := by
  intro ro hr Y call hX hcall g args m KS p hs hp D ρ chs C h vs xx M ha
  cases hg : zy7 g F with
  | false => rw [hg] at hs; cases hs
  | true =>
    rw [hg] at hs
    have := zzd hg
    subst this
    simp only [cond_true, kcP] at hs
    generalize hix : clo m 1000 (zag args) [] = ix at hs
    have hnd : ix.Nodup := hix ▸ zcy _ _ _ List.nodup_nil
    generalize hc : (zfh m.length ix && (zqb (hr ++ ro) ix && (zdz ix (ix.flatMap fun b => zbb (mg m b)) && zdz ix (zag args)))) = cc at hs
    cases cc with
    | false => cases hs; exact hp.elim
    | true =>
      cases hs
      simp only [zy9] at hc
      obtain ⟨h4, h5, h6, h7⟩ := hc
      exact zqi (X := Y) ⟨ix, X, T, hnd, fun x hx => ⟨zb0 h4 x hx, zio h5 x hx⟩, fun x hx y hy => za1 h6 y (z10.2 ⟨x, hx, hy⟩), fun x hx => za1 h7 x hx, hp.1.undat, hp.2⟩ M ha
def krP (P : Program) (F : FuncId) (X : V) (T : Mem) (ro : List Nat) (args : List V) (m : Mem) (K : V → Mem → Prop) (ix : List Nat) : Option Prop :=
 cond (zfh m.length ix && (zqb ro ix && (zdz ix (ix.flatMap fun b => zbb (mg m b)) && zdz ix (zag args))))
  (some (PRun P F (zly m ix) (zd1 (fun b => zjt ix b 0) args) (fun x m => x = X ∧ m = T) ∧ K (zcm (fK ix m.length) X) (backM m ix T))) (some False)
def spKr (F : FuncId) (X : V) (T : Mem) : SP P where
 f ro _ g args m K := cond (zy7 g F) (krP P F X T ro args m K (clo m 1000 (zag args) [])) none
 ok := by
  intro ro hr Y call hX hcall g args m KS p hs hp D ρ chs C h vs xx M ha
  cases hg : zy7 g F with
  | false => rw [hg] at hs; cases hs
  | true =>
    rw [hg] at hs
    have := zzd hg
    subst this
    simp only [cond_true, krP] at hs
    generalize hix : clo m 1000 (zag args) [] = ix at hs
    have hnd : ix.Nodup := hix ▸ zcy _ _ _ List.nodup_nil
    generalize hc : (zfh m.length ix && (zqb (hr ++ ro) ix && (zdz ix (ix.flatMap fun b => zbb (mg m b)) && zdz ix (zag args)))) = cc at hs
    cases cc with
    | false => cases hs; exact hp.elim
    | true =>
      cases hs
      simp only [zy9] at hc
      obtain ⟨h4, h5, h6, h7⟩ := hc
      exact zqi (X := Y) ⟨ix, X, T, hnd, fun x hx => ⟨zb0 h4 x hx, zio h5 x hx⟩, fun x hx y hy => za1 h6 y (z10.2 ⟨x, hx, hy⟩), fun x hx => za1 h7 x hx, hp.1, hp.2⟩ M ha
def spKg (F : FuncId) (R : List V → Mem → V × Mem) : SP P where
 f ro _ g args m K := cond (zy7 g F) (krP P F (R (zd1 (fun b => zjt (clo m 1000 (zag args) []) b 0) args) (zly m (clo m 1000 (zag args) []))).1 (R (zd1 (fun b => zjt (clo m 1000 (zag args) []) b 0) args) (zly m (clo m 1000 (zag args) []))).2 ro args m K (clo m 1000 (zag args) [])) none
 ok := by
  intro ro hr Y call hX hcall g args m KS p hs hp D ρ chs C h vs xx M ha
  cases hg : zy7 g F with
  | false => rw [hg] at hs; cases hs
  | true => exact (spKr (P := P) F _ _).ok (X := Y) hX hcall (g := g) (args := args) (m := m) (KS := KS) (by rw [hg] at hs; show cond (zy7 g F) _ _ = _; rw [hg]; exact hs) hp xx M ha
def spFl (F : FuncId) : SP P where
 f _ _ g _ _ _ := cond (zy7 g F) (some False) none
 ok := by
  intro ro hr Y call hX hcall g args m KS p hs hp D ρ chs C h vs xx M ha
  cases hg : zy7 g F with
  | false => rw [hg] at hs; cases hs
  | true => rw [hg] at hs; cases hs; exact hp.elim
end
section
variable {D D' : Fz} {ρ ρ' : List Loc} {m m' : Mem} {chs C : List zac} {h h' : zaf} {ro hr : List Nat}
def zxw (l : List Nat) : Bool := match l with | [] => true | _ => false
def newP (P : Program) (G : Nat) (as' : List V) (m : Mem) (K : V → Mem → Prop) : Prop :=
 ∃ I : Ob, PRun P G [] as' (fun x m' => x = .t [.r 0 0, .i 0] ∧ m' = [.o I]) ∧ K (.t [.r m.length 0, .i 0]) (m ++ [.o I])
theorem newP_S {as' : List V} {KS : V → Mem → Prop} {D1 : Fz} {m1 : Mem} {c1 : List zac} (hp : newP P g as' m1 KS) (hn : zag as' = []) {vs : List Value} (n1 : Nx ro hr D ρ m chs D1 ρ m1 c1) (M1 : SAt D1 ρ m1 c1 C h) (ra : RpL D1 ρ vs as') : Run P g vs h (zc0 ro hr D ρ m chs C KS) := by
 obtain ⟨I, hrun, hK⟩ := hp
 have M0 : SAt D1 [] [] [] (c1 ++ C) h := ⟨rfl, rfl, fun i L ab ch q => by simp at q, by simpa using M1.st⟩
 refine (hrun D1 [] [] (c1 ++ C) h vs M0 (zer ra hn)).mono ?_
 rintro v h2 ⟨D2, s, cs2, x, T', le, M2, hv, rfl, rfl⟩
 obtain ⟨L, rfl⟩ : ∃ L, s = [L] := by
  have := M2.len
  match s, this with
  | [L], _ => exact ⟨L, rfl⟩
 obtain ⟨ch, rfl⟩ : ∃ c, cs2 = [c] := by
  have := M2.lch
  match cs2, this with
  | [c], _ => exact ⟨c, rfl⟩
 have he := M2.ent 0 L _ ch rfl rfl rfl
 have hl1 : ρ.length = m1.length := M1.len
 have hlc : c1.length = m1.length := M1.lch
 have fin : ∀ (b : Nat) (K : Loc), ([] ++ [L])[b]? = some K → (ρ ++ [L])[b + m1.length]? = some K := fun b K hK => by
  rw [zzz (by omega), show b + m1.length - ρ.length = b by omega]
  simpa using hK
 have M3 : SAt D2 (ρ ++ [L]) (m1 ++ [.o I]) (c1 ++ [ch]) C h2 := by
  refine SAt.push ⟨hl1, hlc, fun i L ab ch q1 q2 q3 => by have := (M1.ent i L ab ch q1 q2 q3).mono le (s := []); rwa [zz7] at this, M2.st.perm (by
   simp only [zz4, zzp, z2t, zz7]
   exact z0d _ _ _)⟩ ?_
  cases he with
  | o hf => exact .o hf
 refine ⟨D2, ρ ++ [L], _, c1 ++ [ch], _, n1.trans (Nx.push M1 le), M3, ?_, hK⟩
 have h0 : Rp D2 (ρ ++ [L]) v (zcm (fun b => b + m1.length) (.t [.r 0 0, .i 0])) := ren_all.1 hv fun b _ L hL => fin b L hL
 have e : zcm (fun b => b + m1.length) (.t [.r 0 0, .i 0]) = .t [.r m1.length 0, .i 0] := by
  show V.t [.r (0 + m1.length) 0, .i 0] = _
  rw [zzo]
 rwa [e] at h0
def spNew (P : Program) (G : Nat) (Ts : List TypeId) : SP P where
 f ro _ g args m K := cond (zy7 g G) (match frzL ro m (ztu P Ts args) with
   | some (as', m1) => cond (zxw (zag as')) (some (newP P G as' m1 K)) (some False)
   | none => some False) none
 ok := by
  intro ro hr X call hX hcall g args m KS p hs hp D ρ chs C h vs xx M ha
  cases hg : zy7 g G with
  | false => rw [hg] at hs; cases hs
  | true =>
    rw [hg] at hs
    have := zzd hg
    subst this
    simp only [cond_true] at hs
    split at hs
    · rename_i as' m1 hf
      have ha := zmj (P := P) (Ts := Ts) ha
      obtain ⟨D1, c1, n1, M1, ra⟩ := zo2 hf M ha
      cases hn : zxw (zag as') with
      | false => rw [hn] at hs; cases hs; exact hp.elim
      | true =>
        rw [hn] at hs; cases hs
        have : zag as' = [] := by
         unfold zxw at hn
         split at hn
         · assumption
         · cases hn
        exact newP_S hp this n1 M1 ra
    · cases hs; exact hp.elim
end
section
set_option maxRecDepth 100000
theorem mixTn7 : Tryz.prog.follows .mixedOrders = true := by kernel_rfl
theorem S21 {k m o p q a b c d f g h t : Int} {l s u : List (List U)} {v : List Int} {w : Ob} (hh : PRun Tryz.prog 69 [] [(q24 k l m [[.n a, .n b, .n c, .n d], [.n e, .n f, .n g, .n h]] n o p q)] (post q7 [] (fun r => (bif r != 0 then Q (.t [.u (.p none), .i r]) (q40 s t u v w 0 [[.l 1 [], .l 1 []], [.l 1 [], .l 1 []], [.l 1 [], .l 1 []], [.l 1 [], .l 1 []]]) else ∃ x : Ob, PRun Tryz.prog 70 [] [.l 4 [[.n a, .n b, .n c, .n d], [.n e, .n f, .n g, .n h]], .l 2 [[.l 1 [], .l 1 []], [.l 1 [], .l 1 []], [.l 1 [], .l 1 []], [.l 1 [], .l 1 []]]] (fun i j => i = .t [.r 0 0, .i 0] ∧ j = [.o x]) ∧ ((PRun Tryz.prog 72 [] [.nl 16] (fun i j => i = .nl 16 ∧ j = [])) ∧ (Q (.t [.r 6 0, .i 0]) (q42 s t u v w 0 k l m [[.n a, .n b, .n c, .n d], [.n e, .n f, .n g, .n h]] n o p q x))) : Prop)))) : PRun Tryz.prog 21 (q40 s t u v w 0 [[.l 1 [], .l 1 []], [.l 1 [], .l 1 []], [.l 1 [], .l 1 []], [.l 1 [], .l 1 []]]) [(q24 k l m [[.n a, .n b, .n c, .n d], [.n e, .n f, .n g, .n h]] n o p q), .r 0 0, .r 1 0, .r 2 0, .r 3 0, .r 4 0, .w 5, .nl 0] Q :=
 zo1 mixTn7 (gc := true) (H := ⟨[], [], [], [], [], false, 64, KN.no, true, ((spNew Tryz.prog 70 [51, 75]).or (zvn 72 (.nl 16) []))⟩) (n := 2) Tryz.func21 (by kernel_rfl) (c := zf7 Tryz.f21) (by kernel_rfl) (Eq.mp (by kernel_rfl) hh)
theorem S27 {f h q r s t i k l m o p b : Int} {g c : List (List U)} {d : List Int} {e X1 : Ob} (hh : dup2 (0 ≤ (4 : Int) ∧ (4 : Int) ≤ 1000000 ∧ (4 : Int) = (4 : Int) ∧ ((PRun Tryz.prog 21 (q40 a b c d e 0 [[.l 1 [], .l 1 []], [.l 1 [], .l 1 []], [.l 1 [], .l 1 []], [.l 1 [], .l 1 []]]) [(q24 f g h [[.n i, .n j, .n k, .n l], [.n m, .n n, .n o, .n p]] q r s t), .r 0 0, .r 1 0, .r 2 0, .r 3 0, .r 4 0, .w 5, .nl 0] (fun u v => u = .t [.r 6 0, .i 0] ∧ v = (q42 a b c d e 0 f g h [[.n i, .n j, .n k, .n l], [.n m, .n n, .n o, .n p]] q r s t X1))) ∧ (Q (.t [.r 4 0, .i 0]) (q41 a b c d e f g h [[.n i, .n j, .n k, .n l], [.n m, .n n, .n o, .n p]] q r s t 0 X1))))) : PRun Tryz.prog 27 (q33 a b c d e) [(q24 f g h [[.n i, .n j, .n k, .n l], [.n m, .n n, .n o, .n p]] q r s t), .r 0 0, .r 1 0, .r 2 0, .r 3 0] Q :=
 zo1 mixTn7 (gc := true) (H := ⟨[], [], [], [], [], false, 64, KN.no, true, (spKr 21 (.t [.r 6 0, .i 0]) [.c [.l 5 a, .i b], .c [.l 5 c, .n .i64 33 d], .o e, .c [.nl 4, .nm], .c [.nl 13, .i 0], .x, .c [.i f, .l 7 g, .i h, .l 4 [[.n i, .n j, .n k, .n l], [.n m, .n n, .n o, .n p]], .i q, .i r, .i s, .i t, .r 0 0, .r 1 0, .r 2 0, .r 3 0, .r 4 0, .r 7 0, .nl 16], .o X1])⟩) (n := 2) Tryz.func27 (by kernel_rfl) (c := zf7 Tryz.f27) (by kernel_rfl) (Eq.mp (by kernel_rfl) hh)
end
def unT : List U → Tm
 | [.i .i64 a, .i .i64 b, .i .i64 c] => (a, b, c)
 | _ => (0, 0, 0)
def ztm (rows : List (List U)) : List (List U) := (zfm (rows.map unT)).map rT
theorem zrl (L : List Tm) : ztm (L.map rT) = (zfm L).map rT := by
 have e : (L.map rT).map unT = L := by rw [z0k]; exact (List.map_congr_left (g := id) (fun x _ => rfl)).trans (List.map_id L)
 unfold ztm
 rw [e]
def apsR (args : List V) (m : Mem) : V × Mem :=
 match m with
 | [c, .w E sz rows] => (.w 2, [c, .w E sz rows, .w E sz rows])
 | _ => (.t [], [])
def srtR (args : List V) (m : Mem) : V × Mem :=
 match m with
 | [c, .w E sz rows] => (.w 2, [c, .w E sz rows, .w E sz (ztm rows)])
 | _ => (.t [], [])
section
set_option maxRecDepth 100000
theorem zsc : Tryz.prog.follows .mixedOrders = true := by kernel_rfl
theorem S307 {c : List (List U)} (hh : ∃ (d : Int → List (List U) → Prop) (i : Int → List (List U) → Nat), d 0 [] ∧ (∀ a : Int, ∀ b : List (List U), d a b → (bif decide (a < (zy6 c : Int)) then 0 ≤ a ∧ a < (zy6 c : Int) ∧ (elL c a (fun e => dI .i64 (ug e 0) (fun f => dI .i64 (ug e 1) (fun g => dI .i64 (ug e 2) (fun h => zak b [[.n f, .n g, .n h]] ∧ (d (zy5 .i64 (a + 1)) (b ++ [[.n f, .n g, .n h]]) ∧ i (zy5 .i64 (a + 1)) (b ++ [[.n f, .n g, .n h]]) < i a b)))))) else Q (.w 2) [.c [.w 1], .w 103 3 c, .w 103 3 b]))) : PRun Tryz.prog 307 [.c [.w 1], .w 103 3 c] [.nl 0, .f 223 [] [.r 0 0]] Q :=
 zo1 zsc (gc := true) (H := ⟨[((223, 1, 4), ⟨[(7, .I)], [(2, .c [.ow 103 3])]⟩)], [], [], [], [], true, 64, KN.no, true, SP.no⟩) (n := 3) Tryz.func307 (by kernel_rfl) (c := zf7 Tryz.f307) (by kernel_rfl) (Eq.mp (by kernel_rfl) hh)
theorem S221 (hh : (PRun Tryz.prog 307 [.c [.w 1], .w 103 3 a] [.nl 0, .f 223 [] [.r 0 0]] (fun b c => b = .w 2 ∧ c = [.c [.w 1], .w 103 3 a, .w 103 3 a])) ∧ (Q (.w 2) [.c [.w 1], .w 103 3 a, .w 103 3 a])) : PRun Tryz.prog 221 [.c [.w 1], .w 103 3 a] [.f 223 [] [.r 0 0]] Q :=
 zad zsc Tryz.func221 (by kernel_rfl) (H := ⟨[], [], [], [], [], true, 64, KN.no, false, (spKg 307 apsR)⟩) (n := 2) (by kernel_rfl) hh
theorem S117 (hh : (PRun Tryz.prog 221 [.c [.w 1], .w 103 3 a] [.f 223 [] [.r 0 0]] (fun b c => b = .w 2 ∧ c = [.c [.w 1], .w 103 3 a, .w 103 3 a])) ∧ (PRun Tryz.prog 222 [.w 103 3 a] [.w 0, .f 119 [] []] (post [] [.row 103 3] (fun d => (Q (.w 2) [.c [.w 1], .w 103 3 a, .w 103 3 d] : Prop))))) : PRun Tryz.prog 117 [.c [.w 1], .w 103 3 a] [.f 223 [] [.r 0 0], .f 119 [] []] Q :=
 zad zsc Tryz.func117 (by kernel_rfl) (H := ⟨[], [], [], [222], [(222, [], [.row 103 3])], true, 64, KN.no, false, (spKg 221 apsR)⟩) (n := 2) (by kernel_rfl) hh
theorem S44 {f : List (MK × List U)} {d : Int} (hh : (PRun Tryz.prog 117 [.c [.w 1], .w 103 3 a] [.f 223 [] [.r 0 0], .f 119 [] []] (fun b c => b = .w 2 ∧ c = [.c [.w 1], .w 103 3 a, .w 103 3 (ztm a)])) ∧ (Q (.l 3 (ztm a)) (q23 d e a f))) : PRun Tryz.prog 44 (q23 d e a f) [.r 0 0] Q :=
 zad zsc Tryz.func44 (by kernel_rfl) (H := ⟨[], [], [116, 118], [], [], false, 64, KN.no, false, (spKg 117 srtR)⟩) (n := 3) (by kernel_rfl) hh
end
section
set_option maxRecDepth 1000000
variable {Q : V → Mem → Prop}
def movP (f t n : Int) (p : Tb) : Tb := if zgo f t n p = 0 then zxa f t n p else p
theorem movP_S {f t : Int} {p : Tb} {pn : Int} (hp : PInv p pn) (hl : p.length ≤ 800000) (K : ∀ e, PInv (movP f t n p) pn → (movP f t n p).length = p.length → Q (.i e) [pC (movP f t n p) pn]) : PRun Tryz.prog 89 [pC p pn] [.r 0 0, .i f, .i t, .i n] Q := by
 refine move_S hp (by omega) (fun he => ?_) fun he => ?_
 · have := K (zgo f t n p)
   unfold movP at this
   rw [if_neg he] at this
   exact this hp rfl
 · have := K 0
   unfold movP at this
   rw [if_pos he] at this
   exact this (hp.move he) (zw9 hp.srt he)
theorem zj8 {x : K4} : ∀ {L : List Stk} {l l' : Tb}, Srt l → (L.Pairwise fun a b => a.1 < b.1) → zb9 x L l = some l' → ∀ s ∈ L, s.2 ≤ zan (bin x s.1) l
 | [], _, _, _, _, _, s, hs => by simp at hs
 | q :: r, l, l', hs, hpw, h, s, hm => by
   have hpw2 := z0h.1 hpw
   simp only [zb9] at h
   split at h
   · rename_i hq
     rcases zze.1 hm with rfl | hm
     · exact hq
     · have := zj8 (zhu hs) hpw2.2 h s hm
       rw [zna _ hs, if_neg fun e => ?_] at this
       · exact this
       · have h1 := hpw2.1 s hm
         have e' : s.1 = q.1 := congrArg K4.d e
         omega
   · cases h
theorem lock2_B {l : Tb} {fr : K4} (h : BInv l) (hl : l.length ≤ 800000) (hid : 1 ≤ id ∧ id < 1048576) (hL : L.length ≤ 1000) (hx : isB (bin fr 1) = true) (hc : zfg L 32 = 0)
 (k1 : (∃ s ∈ L, zan (bin fr s.1) l < s.2) → Q (.i 7) [bK l])
 (k2 : (∀ s ∈ L, s.2 ≤ zan (bin fr s.1) l) → ∀ l1, zb9 fr L l = some l1 → BInv l1 → BInv (zih (vK id fr.c) L l1) → (zih (vK id fr.c) L l1).length ≤ l.length + 2 * L.length → Q (.i 0) [bK (zih (vK id fr.c) L l1)]) : PRun Tryz.prog 87 [bK l] [.r 0 0, kV fr, .i 1, .i id, .l 2 (L.map eS)] Q := by
 by_cases hlie : ∀ s ∈ L, s.2 ≤ zan (bin fr s.1) l
 · exact lock_B h hl hid hL hx hc hlie (k2 hlie)
 · have hex : ∃ s ∈ L, zan (bin fr s.1) l < s.2 := by
    simp only [Classical.not_forall, Int.not_le] at hlie
    obtain ⟨s, hs, h2⟩ := hlie
    exact ⟨s, hs, h2⟩
   refine S87 (zqa hid ?_)
   rw [zb5]
   refine cNe (fun h => absurd rfl h) fun _ => znx h (by omega) hL (fun hb => ?_) (fun _ _ hb => ?_) fun l' _ _ hb hi hln => ?_
   · rcases hb with hb | hb
     · rw [hx] at hb; cases hb
     · exact absurd hc hb
   · rw [zaz]
     exact cNe (fun _ => cNe (fun _ => k1 hex) fun h => absurd h (by decide)) fun h => absurd h (by decide)
   · exact absurd (zj8 h.srt (zjc hc) hb) hlie
end
section
set_option maxRecDepth 100000
theorem zsb : Tryz.prog.follows .mixedOrders = true := by kernel_rfl
theorem S29e1 {b d f g h i k q β s t u v w x y α : Int} {c e j l p : List (List U)} {m : List Int} {n o r : Ob} (hh : (PRun Tryz.prog 84 (q21 b c d e f g h i j k l m n o p q r a s t u v w x y α 0 0 0 0 0 0 0 0 0 0 0 0 0 0 0 0 [] 0 0 0 (zy5 .i64 ((zy6 a : Int) + 1)) x t u s v w y α 0 0 [] 1 0 0 0 0) [.r 0 0, .i β, .r 8 0] (fun γ δ => γ = .i (Int.ofNat (ek + 1)) ∧ δ = [.c [.i b, .l 7 c, .i d, .l 4 e, .i f, .i g, .i h, .i i, .r 1 0, .r 2 0, .r 3 0, .r 4 0, .r 5 0, .r 6 0, .w 7], .c [.l 5 j, .i k], .c [.l 5 l, .n .i64 33 m], .o n, .o o, .c [.l 13 p, .i q], .o r, .w 48 16 a, .x])) ∧ (Q (.t [.i 0, .i (Int.ofNat (ek + 1))]) (q14 b c d e f g h i j k l m n o p q r a))) : PRun Tryz.prog 29 (q14 b c d e f g h i j k l m n o p q r a) [.r 0 0, .i β, .a [.i s, .i t, .i u, .i v, .i w, .i x, .i y, .i α]] Q :=
 zad zsb Tryz.func29 (by kernel_rfl) (H := ⟨[], [], [41], [], [], false, 64, KN.no, false, ((((zvn 84 (.i (Int.ofNat (ek + 1))) [.c [.i b, .l 7 c, .i d, .l 4 e, .i f, .i g, .i h, .i i, .r 1 0, .r 2 0, .r 3 0, .r 4 0, .r 5 0, .r 6 0, .w 7], .c [.l 5 j, .i k], .c [.l 5 l, .n .i64 33 m], .o n, .o o, .c [.l 13 p, .i q], .o r, .w 48 16 a, .x]).or (spFl 85)).or (spFl 86)).or (spFl 87))⟩) (n := 3) (by kernel_rfl) hh
theorem S29e2 {l o p q s y δ b c d f g h i n_place n_make n_lab n_rate e_id e_own e_div e_place e_blue e_me e_te e_runs e_busy b_makes b_per b_time b_copy b_study b_most money : Int} {k m t x b_needs : List (List U)} {u : List Int} {v w α : Ob} (hh : (PRun Tryz.prog 84 (q21 j k l m n o p q r s t u v w x y α a b c d e f g h i 0 0 0 0 0 0 0 0 0 0 0 0 0 0 0 0 [] 0 0 0 (zy5 .i64 ((zy6 a : Int) + 1)) g c d b e f h i 0 0 [] 1 0 0 0 0) [.r 0 0, .i δ, .r 8 0] (fun β γ => β = .i 0 ∧ γ = (q21 j k l m n o p q r s t u v w x y α a b c d e f g h i n_place n_make n_lab n_rate e_id e_own e_div e_place e_blue e_me e_te e_runs e_busy b_makes b_per b_time b_needs b_copy b_study b_most (zy5 .i64 ((zy6 a : Int) + 1)) g c d b e f h i 0 0 [] 1 0 0 0 money))) ∧ ((PRun Tryz.prog 85 (q21 j k l m n o p q r s t u v w x y α a b c d e f g h i n_place n_make n_lab n_rate e_id e_own e_div e_place e_blue e_me e_te e_runs e_busy b_makes b_per b_time b_needs b_copy b_study b_most (zy5 .i64 ((zy6 a : Int) + 1)) g c d b e f h i 0 0 [] 1 0 0 0 money) [.r 0 0, .r 8 0] (fun β γ => β = .i (Int.ofNat (ek + 1)) ∧ γ = [.c [.i j, .l 7 k, .i l, .l 4 m, .i n, .i o, .i p, .i q, .r 1 0, .r 2 0, .r 3 0, .r 4 0, .r 5 0, .r 6 0, .w 7], .c [.l 5 r, .i s], .c [.l 5 t, .n .i64 33 u], .o v, .o w, .c [.l 13 x, .i y], .o α, .w 48 16 a, .x])) ∧ (Q (.t [.i 0, .i (Int.ofNat (ek + 1))]) (q14 j k l m n o p q r s t u v w x y α a)))) : PRun Tryz.prog 29 (q14 j k l m n o p q r s t u v w x y α a) [.r 0 0, .i δ, .a [.i b, .i c, .i d, .i e, .i f, .i g, .i h, .i i]] Q :=
 zad zsb Tryz.func29 (by kernel_rfl) (H := ⟨[], [], [41], [], [], false, 64, KN.no, false, ((((zvn 84 (.i 0) [.c [.i j, .l 7 k, .i l, .l 4 m, .i n, .i o, .i p, .i q, .r 1 0, .r 2 0, .r 3 0, .r 4 0, .r 5 0, .r 6 0, .w 7], .c [.l 5 r, .i s], .c [.l 5 t, .n .i64 33 u], .o v, .o w, .c [.l 13 x, .i y], .o α, .w 48 16 a, .c [.i b, .i c, .i d, .i e, .i f, .i g, .i h, .i i, .i n_place, .i n_make, .i n_lab, .i n_rate, .i e_id, .i e_own, .i e_div, .i e_place, .i e_blue, .i e_me, .i e_te, .i e_runs, .i e_busy, .i b_makes, .i b_per, .i b_time, .l 2 b_needs, .i b_copy, .i b_study, .i b_most, .i (zy5 .i64 ((zy6 a : Int) + 1)), .i g, .i c, .i d, .i b, .i e, .i f, .i h, .i i, .i 0, .i 0, .l 2 [], .i 1, .i 0, .i 0, .i 0, .i money]]).or (zvn 85 (.i (Int.ofNat (ek + 1))) [.c [.i j, .l 7 k, .i l, .l 4 m, .i n, .i o, .i p, .i q, .r 1 0, .r 2 0, .r 3 0, .r 4 0, .r 5 0, .r 6 0, .w 7], .c [.l 5 r, .i s], .c [.l 5 t, .n .i64 33 u], .o v, .o w, .c [.l 13 x, .i y], .o α, .w 48 16 a, .x])).or (spFl 86)).or (spFl 87))⟩) (n := 3) (by kernel_rfl) hh
theorem S29e3 {l o p q s y δ b c d f g h i n_place n_make n_lab n_rate e_id e_own e_div e_place e_blue e_me e_te e_runs e_busy b_makes b_per b_time b_copy b_study b_most money : Int} {k m t x b_needs : List (List U)} {u : List Int} {v w α : Ob} (hh : (PRun Tryz.prog 84 (q21 j k l m n o p q r s t u v w x y α a b c d e f g h i 0 0 0 0 0 0 0 0 0 0 0 0 0 0 0 0 [] 0 0 0 (zy5 .i64 ((zy6 a : Int) + 1)) g c d b e f h i 0 0 [] 1 0 0 0 0) [.r 0 0, .i δ, .r 8 0] (fun β γ => β = .i 0 ∧ γ = (q21 j k l m n o p q r s t u v w x y α a b c d e f g h i n_place n_make n_lab n_rate e_id e_own e_div e_place e_blue e_me e_te e_runs e_busy b_makes b_per b_time b_needs b_copy b_study b_most (zy5 .i64 ((zy6 a : Int) + 1)) g c d b e f h i 0 0 [] 1 0 0 0 money))) ∧ ((PRun Tryz.prog 85 (q21 j k l m n o p q r s t u v w x y α a b c d e f g h i n_place n_make n_lab n_rate e_id e_own e_div e_place e_blue e_me e_te e_runs e_busy b_makes b_per b_time b_needs b_copy b_study b_most (zy5 .i64 ((zy6 a : Int) + 1)) g c d b e f h i 0 0 [] 1 0 0 0 money) [.r 0 0, .r 8 0] (fun β γ => β = .i 0 ∧ γ = (q21 j k l m n o p q r s t u v w x y α a b c d e f g h i n_place n_make n_lab n_rate e_id e_own e_div e_place e_blue e_me e_te e_runs e_busy b_makes b_per b_time b_needs b_copy b_study b_most (zy5 .i64 ((zy6 a : Int) + 1)) g c d b e f h i 0 0 [] 1 0 0 0 money))) ∧ ((PRun Tryz.prog 86 (q28 b c d e f g h i n_place n_make n_lab n_rate e_id e_own e_div e_place e_blue e_me e_te e_runs e_busy b_makes b_per b_time b_needs b_copy b_study b_most (zy5 .i64 ((zy6 a : Int) + 1)) g c d b e f h i 0 0 [] 1 0 0 0 money) [.r 0 0] (fun β γ => β = .i (Int.ofNat (ek + 1)) ∧ γ = [.x])) ∧ (Q (.t [.i 0, .i (Int.ofNat (ek + 1))]) (q14 j k l m n o p q r s t u v w x y α a))))) : PRun Tryz.prog 29 (q14 j k l m n o p q r s t u v w x y α a) [.r 0 0, .i δ, .a [.i b, .i c, .i d, .i e, .i f, .i g, .i h, .i i]] Q :=
 zad zsb Tryz.func29 (by kernel_rfl) (H := ⟨[], [], [41], [], [], false, 64, KN.no, false, ((((zvn 84 (.i 0) [.c [.i j, .l 7 k, .i l, .l 4 m, .i n, .i o, .i p, .i q, .r 1 0, .r 2 0, .r 3 0, .r 4 0, .r 5 0, .r 6 0, .w 7], .c [.l 5 r, .i s], .c [.l 5 t, .n .i64 33 u], .o v, .o w, .c [.l 13 x, .i y], .o α, .w 48 16 a, .c [.i b, .i c, .i d, .i e, .i f, .i g, .i h, .i i, .i n_place, .i n_make, .i n_lab, .i n_rate, .i e_id, .i e_own, .i e_div, .i e_place, .i e_blue, .i e_me, .i e_te, .i e_runs, .i e_busy, .i b_makes, .i b_per, .i b_time, .l 2 b_needs, .i b_copy, .i b_study, .i b_most, .i (zy5 .i64 ((zy6 a : Int) + 1)), .i g, .i c, .i d, .i b, .i e, .i f, .i h, .i i, .i 0, .i 0, .l 2 [], .i 1, .i 0, .i 0, .i 0, .i money]]).or (zvn 85 (.i 0) [.c [.i j, .l 7 k, .i l, .l 4 m, .i n, .i o, .i p, .i q, .r 1 0, .r 2 0, .r 3 0, .r 4 0, .r 5 0, .r 6 0, .w 7], .c [.l 5 r, .i s], .c [.l 5 t, .n .i64 33 u], .o v, .o w, .c [.l 13 x, .i y], .o α, .w 48 16 a, .c [.i b, .i c, .i d, .i e, .i f, .i g, .i h, .i i, .i n_place, .i n_make, .i n_lab, .i n_rate, .i e_id, .i e_own, .i e_div, .i e_place, .i e_blue, .i e_me, .i e_te, .i e_runs, .i e_busy, .i b_makes, .i b_per, .i b_time, .l 2 b_needs, .i b_copy, .i b_study, .i b_most, .i (zy5 .i64 ((zy6 a : Int) + 1)), .i g, .i c, .i d, .i b, .i e, .i f, .i h, .i i, .i 0, .i 0, .l 2 [], .i 1, .i 0, .i 0, .i 0, .i money]])).or (zvn 86 (.i (Int.ofNat (ek + 1))) [.x])).or (spFl 87))⟩) (n := 3) (by kernel_rfl) hh
theorem S29e0 {l o p q u s ε c d f b g h i n_place n_make n_lab n_rate e_id e_own e_div e_place e_blue e_me e_te e_runs e_busy b_makes b_per b_time b_copy b_study b_most money t_time t_fee : Int} {k m t y b_needs t_needs : List (List U)} {α : List Int} {v w x : Ob} (hh : (PRun Tryz.prog 84 (q21 j k l m n o p q t u y α v w r s x a c d e f b g h i 0 0 0 0 0 0 0 0 0 0 0 0 0 0 0 0 [] 0 0 0 (zy5 .i64 ((zy6 a : Int) + 1)) g d e c f b h i 0 0 [] 1 0 0 0 0) [.r 0 0, .i ε, .r 8 0] (fun β γ => β = .i 0 ∧ γ = (q21 j k l m n o p q t u y α v w r s x a c d e f b g h i n_place n_make n_lab n_rate e_id e_own e_div e_place e_blue e_me e_te e_runs e_busy b_makes b_per b_time b_needs b_copy b_study b_most (zy5 .i64 ((zy6 a : Int) + 1)) g d e c f b h i 0 0 [] 1 0 0 0 money))) ∧ ((PRun Tryz.prog 85 (q21 j k l m n o p q t u y α v w r s x a c d e f b g h i n_place n_make n_lab n_rate e_id e_own e_div e_place e_blue e_me e_te e_runs e_busy b_makes b_per b_time b_needs b_copy b_study b_most (zy5 .i64 ((zy6 a : Int) + 1)) g d e c f b h i 0 0 [] 1 0 0 0 money) [.r 0 0, .r 8 0] (fun β γ => β = .i 0 ∧ γ = (q21 j k l m n o p q t u y α v w r s x a c d e f b g h i n_place n_make n_lab n_rate e_id e_own e_div e_place e_blue e_me e_te e_runs e_busy b_makes b_per b_time b_needs b_copy b_study b_most (zy5 .i64 ((zy6 a : Int) + 1)) g d e c f b h i 0 0 [] 1 0 0 0 money))) ∧ ((PRun Tryz.prog 86 (q28 c d e f b g h i n_place n_make n_lab n_rate e_id e_own e_div e_place e_blue e_me e_te e_runs e_busy b_makes b_per b_time b_needs b_copy b_study b_most (zy5 .i64 ((zy6 a : Int) + 1)) g d e c f b h i 0 0 [] 1 0 0 0 money) [.r 0 0] (fun β γ => β = .i 0 ∧ γ = (q28 c d e f b g h i n_place n_make n_lab n_rate e_id e_own e_div e_place e_blue e_me e_te e_runs e_busy b_makes b_per b_time b_needs b_copy b_study b_most (zy5 .i64 ((zy6 a : Int) + 1)) g d e c f b h i t_time t_fee t_needs 1 0 0 t_time money))) ∧ (bif decide (money < t_fee) then Q (.t [.i 0, .i 6]) (q14 j k l m n o p q t u y α v w r s x a) else dup2 (PRun Tryz.prog 180 [] [.a [.i j, .l 7 k, .i l, .l 4 m, .i n, .i o, .i p, .i q], .i f] (post q8 [] (fun μ b2 b3 b4 b5 => (PRun Tryz.prog 87 (q15 y α) [.r 0 0, .a [.i d, .i e, .i μ, .i 1], .i 1, .i (zy5 .i64 ((zy6 a : Int) + 1)), .l 2 t_needs] (post q7 q3 (fun ζ η θ => (bif ζ != 0 then Q (.t [.i 0, .i ζ]) (q14 j k l m n o p q t u η θ v w r s x a) else PRun Tryz.prog 89 [.c [.l 5 t, .i u]] [.r 0 0, .i c, .i 0, .i t_fee] (post q7 q9 (fun b6 ν ξ => ∀ δ : List (List U) → Int → Prop, (∀ ι : List (List U), ∀ κ : Int, (zak a [[.n (zy5 .i64 ((zy6 a : Int) + 1)), .n g, .n d, .n e, .n c, .n f, .n b, .n h, .n i, .n t_time, .n t_fee, .l 2 t_needs, .n 1, .n 0, .n 0, .n t_time]] ∧ (PRun Tryz.prog 92 (q14 j k l m n o p q ν ξ η θ v w ι κ x (a ++ [[.n (zy5 .i64 ((zy6 a : Int) + 1)), .n g, .n d, .n e, .n c, .n f, .n b, .n h, .n i, .n t_time, .n t_fee, .l 2 t_needs, .n 1, .n 0, .n 0, .n t_time]])) [.r 0 0, .a [.i (zy5 .i64 ((zy6 a : Int) + 1)), .i g, .i d, .i e, .i c, .i f, .i b, .i h, .i i, .i t_time, .i t_fee, .l 2 t_needs, .i 1, .i 0, .i 0, .i t_time], .i ε] (post [] q1 (fun ο π ρ σ τ υ φ χ ψ ω a0 a1 a2 a3 a4 a5 a6 a7 => (Q (.t [.i (zy5 .i64 ((zy6 a : Int) + 1)), .i 0]) (q18 ο π ρ σ τ υ φ χ ω a0 a1 a2 a3 a4 a5 a6 a7 ψ) : Prop))))) → δ ι κ) → (bif g == 1 then PRun Tryz.prog 90 [.c [.l 13 r, .i s]] [.r 0 0, .i b, .i (zy5 .i64 ((zy6 a : Int) + 1)), .i h] (post q7 q4 (fun b7 a8 a9 => (δ a8 a9 : Prop))) else PRun Tryz.prog 90 [.c [.l 13 r, .i s]] [.r 0 0, .i b, .i (zy5 .i64 ((zy6 a : Int) + 1)), .i 0] (post q7 q4 (fun b8 b0 b1 => (δ b0 b1 : Prop)))))) : Prop))) : Prop)))))))) : PRun Tryz.prog 29 (q14 j k l m n o p q t u y α v w r s x a) [.r 0 0, .i ε, .a [.i c, .i d, .i e, .i f, .i b, .i g, .i h, .i i]] Q :=
 zad zsb Tryz.func29 (by kernel_rfl) (H := ⟨[], [((29, 19, 10), ⟨[], [(5, .c [.l 13, .i .i64])]⟩)], [41, 88, 91], [], [], false, 64, KN.no, false, (((zvn 84 (.i 0) [.c [.i j, .l 7 k, .i l, .l 4 m, .i n, .i o, .i p, .i q, .r 1 0, .r 2 0, .r 3 0, .r 4 0, .r 5 0, .r 6 0, .w 7], .c [.l 5 t, .i u], .c [.l 5 y, .n .i64 33 α], .o v, .o w, .c [.l 13 r, .i s], .o x, .w 48 16 a, .c [.i c, .i d, .i e, .i f, .i b, .i g, .i h, .i i, .i n_place, .i n_make, .i n_lab, .i n_rate, .i e_id, .i e_own, .i e_div, .i e_place, .i e_blue, .i e_me, .i e_te, .i e_runs, .i e_busy, .i b_makes, .i b_per, .i b_time, .l 2 b_needs, .i b_copy, .i b_study, .i b_most, .i (zy5 .i64 ((zy6 a : Int) + 1)), .i g, .i d, .i e, .i c, .i f, .i b, .i h, .i i, .i 0, .i 0, .l 2 [], .i 1, .i 0, .i 0, .i 0, .i money]]).or (zvn 85 (.i 0) [.c [.i j, .l 7 k, .i l, .l 4 m, .i n, .i o, .i p, .i q, .r 1 0, .r 2 0, .r 3 0, .r 4 0, .r 5 0, .r 6 0, .w 7], .c [.l 5 t, .i u], .c [.l 5 y, .n .i64 33 α], .o v, .o w, .c [.l 13 r, .i s], .o x, .w 48 16 a, .c [.i c, .i d, .i e, .i f, .i b, .i g, .i h, .i i, .i n_place, .i n_make, .i n_lab, .i n_rate, .i e_id, .i e_own, .i e_div, .i e_place, .i e_blue, .i e_me, .i e_te, .i e_runs, .i e_busy, .i b_makes, .i b_per, .i b_time, .l 2 b_needs, .i b_copy, .i b_study, .i b_most, .i (zy5 .i64 ((zy6 a : Int) + 1)), .i g, .i d, .i e, .i c, .i f, .i b, .i h, .i i, .i 0, .i 0, .l 2 [], .i 1, .i 0, .i 0, .i 0, .i money]])).or (zvn 86 (.i 0) [.c [.i c, .i d, .i e, .i f, .i b, .i g, .i h, .i i, .i n_place, .i n_make, .i n_lab, .i n_rate, .i e_id, .i e_own, .i e_div, .i e_place, .i e_blue, .i e_me, .i e_te, .i e_runs, .i e_busy, .i b_makes, .i b_per, .i b_time, .l 2 b_needs, .i b_copy, .i b_study, .i b_most, .i (zy5 .i64 ((zy6 a : Int) + 1)), .i g, .i d, .i e, .i c, .i f, .i b, .i h, .i i, .i t_time, .i t_fee, .l 2 t_needs, .i 1, .i 0, .i 0, .i t_time, .i money]]))⟩) (n := 3) (by kernel_rfl) hh
end
def isRow (x : Int) : List U → Bool
 | [.i .i64 y] => y == x
 | _ => false
def delR (args : List V) (m : Mem) : V × Mem :=
 match m with
 | [.w E sz rows, .c [.u (.i .i64 x)]] => (.w 2, [.x, .c [.i x], .w E sz (rows.filter fun r => !isRow x r)])
 | _ => (.t [], [])
section
set_option maxRecDepth 100000
theorem mixTa6 : Tryz.prog.follows .mixedOrders = true := by kernel_rfl
theorem S160s (hh : zak [] [[.n 1]] ∧ (zak [] [[.n 3]] ∧ (0 ≤ (3 : Int) ∧ (3 : Int) < (65 : Int) ∧ (0 ≤ (3 : Int) ∧ (3 : Int) < (65 : Int) ∧ (zak [[.n 1]] [[.n 2]] ∧ (zak [] [[.n 3]] ∧ (0 ≤ (3 : Int) ∧ (3 : Int) < (65 : Int) ∧ (0 ≤ (3 : Int) ∧ (3 : Int) < (65 : Int) ∧ (zak [] [[.n 3]] ∧ (zak [] [[.n 4]] ∧ (0 ≤ (4 : Int) ∧ (4 : Int) < (65 : Int) ∧ (0 ≤ (4 : Int) ∧ (4 : Int) < (65 : Int) ∧ (0 ≤ (1 : Int) ∧ (1 : Int) < (65 : Int) ∧ (zak [] [[.n 1]] ∧ (0 ≤ (2 : Int) ∧ (2 : Int) < (65 : Int) ∧ (zak [[.n 1]] [[.n 2]] ∧ (0 ≤ (3 : Int) ∧ (3 : Int) < (65 : Int) ∧ (0 ≤ (4 : Int) ∧ (4 : Int) < (65 : Int) ∧ (0 ≤ (0 : Int) ∧ (0 : Int) < 2 ∧ (0 ≤ (1 : Int) ∧ (1 : Int) < 2 ∧ ((PRun Tryz.prog 304 [.w 3 1 [[.n 1], [.n 2]], .c [.i 1]] [.w 0, .f 370 [] [.r 1 0]] (fun a b => a = .w 2 ∧ b = [.x, .c [.i 1], .w 3 1 [[.n 2]]])) ∧ (zak [] [[.n 1]] ∧ (0 ≤ (0 : Int) ∧ (0 : Int) < 1 ∧ (0 ≤ (3 : Int) ∧ (3 : Int) < (65 : Int) ∧ (0 ≤ (3 : Int) ∧ (3 : Int) < (65 : Int) ∧ (0 ≤ (3 : Int) ∧ (3 : Int) < (65 : Int) ∧ (0 ≤ (0 : Int) ∧ (0 : Int) < 1 ∧ ((PRun Tryz.prog 304 [.w 3 1 [[.n 2]], .c [.i 2]] [.w 0, .f 370 [] [.r 1 0]] (fun a b => a = .w 2 ∧ b = [.x, .c [.i 2], .w 3 1 []])) ∧ (zak [[.n 1]] [[.n 2]] ∧ (0 ≤ (0 : Int) ∧ (0 : Int) < 1 ∧ (0 ≤ (3 : Int) ∧ (3 : Int) < (65 : Int) ∧ (0 ≤ (3 : Int) ∧ (3 : Int) < (65 : Int) ∧ (0 ≤ (3 : Int) ∧ (3 : Int) < (65 : Int) ∧ (zak [] [[.n 3]] ∧ (0 ≤ (0 : Int) ∧ (0 : Int) < 1 ∧ ((PRun Tryz.prog 304 [.w 3 1 [[.n 3]], .c [.i 3]] [.w 0, .f 370 [] [.r 1 0]] (fun a b => a = .w 2 ∧ b = [.x, .c [.i 3], .w 3 1 []])) ∧ (zak [[.n 1], [.n 2]] [[.n 3]] ∧ (0 ≤ (0 : Int) ∧ (0 : Int) < 1 ∧ (0 ≤ (4 : Int) ∧ (4 : Int) < (65 : Int) ∧ (0 ≤ (4 : Int) ∧ (4 : Int) < (65 : Int) ∧ (0 ≤ (4 : Int) ∧ (4 : Int) < (65 : Int) ∧ (zak [] [[.n 4]] ∧ (0 ≤ (0 : Int) ∧ (0 : Int) < 1 ∧ ((PRun Tryz.prog 304 [.w 3 1 [[.n 4]], .c [.i 4]] [.w 0, .f 370 [] [.r 1 0]] (fun a b => a = .w 2 ∧ b = [.x, .c [.i 4], .w 3 1 []])) ∧ (zak [[.n 1], [.n 2], [.n 3]] [[.n 4]] ∧ (0 ≤ (4 : Int) ∧ (4 : Int) ≤ 1000000 ∧ (4 : Int) = (4 : Int) ∧ (0 ≤ (0 : Int) ∧ (0 : Int) < 4 ∧ (0 ≤ (1 : Int) ∧ (1 : Int) < 4 ∧ (0 ≤ (2 : Int) ∧ (2 : Int) < 4 ∧ (0 ≤ (0 : Int) ∧ (0 : Int) < 2 ∧ (0 ≤ (2 : Int) ∧ (2 : Int) < 4 ∧ (0 ≤ (0 : Int) ∧ (0 : Int) < 4 ∧ (0 ≤ (2 : Int) ∧ (2 : Int) < 4 ∧ (0 ≤ (1 : Int) ∧ (1 : Int) < 2 ∧ (0 ≤ (2 : Int) ∧ (2 : Int) < 4 ∧ (0 ≤ (1 : Int) ∧ (1 : Int) < 4 ∧ (0 ≤ (2 : Int) ∧ (2 : Int) < 4 ∧ (0 ≤ (3 : Int) ∧ (3 : Int) < 4 ∧ (0 ≤ (0 : Int) ∧ (0 : Int) < 1 ∧ (0 ≤ (3 : Int) ∧ (3 : Int) < 4 ∧ (0 ≤ (2 : Int) ∧ (2 : Int) < 4 ∧ (0 ≤ (3 : Int) ∧ (3 : Int) < 4 ∧ (Q (.t [.l 1 [[.n 0], [.n 0], [.n 1], [.n 2]], .i 0]) []))))))))))))))))))))))))))))))))))))))))))))))))))))))))))))))) : PRun Tryz.prog 160 [] [.i 4, .l 2 [[.n 3, .n 1], [.n 3, .n 2], [.n 4, .n 3]]] Q :=
 zad mixTa6 Tryz.func160 (by kernel_rfl) (H := ⟨[], [], [275, 337, 338, 368, 369], [], [], false, 64, KN.no, false, (spKg 304 delR)⟩) (n := 5) (by kernel_rfl) hh
theorem S69s {f g h : Int} (hh : PRun Tryz.prog 270 [] [(q22 3 2 10 [[.n 1, .n 3], [.n 2, .n 1]] 2 3 5), .i 4] (post q7 [] (fun k => (bif k != 0 then Q (.i 1) [] else PRun Tryz.prog 270 [] [(q22 4 1 7 [[.n 3, .n 2]] 0 0 3), .i 4] (post q7 [] (fun l => (bif l != 0 then Q (.i 1) [] else (bif decide (f ≥ 0) then (bif !(decide (f ≤ 8)) then Q (.i 1) [] else (bif decide (g ≥ 1) then (bif !(decide (g ≤ 2)) then Q (.i 1) [] else (bif decide (h ≥ 0) then (bif !(decide (h ≤ 8)) then Q (.i 1) [] else zak [] [[.n 3, .n 1]] ∧ (zak [[.n 3, .n 1]] [[.n 3, .n 2]] ∧ (zak [[.n 3, .n 1], [.n 3, .n 2]] [[.n 4, .n 3]] ∧ (PRun Tryz.prog 160 [] [.i 4, .l 2 [[.n 3, .n 1], [.n 3, .n 2], [.n 4, .n 3]]] (post [.L 1, .I] [] (fun c i => (bif i != 0 then Q (.i i) [] else (bif decide ((zy6 c : Int) < 1) then False else elL c 0 (fun m => dI .i64 (ug m 0) (fun n => ∃ (e : Int → Int → Prop) (j : Int → Int → Nat), e n 1 ∧ (∀ a b : Int, e a b → (bif decide (b < (zy6 c : Int)) then elL c b (fun o => dI .i64 (ug o 0) (fun d => e (if d > a then d else a) (zy5 .i64 (b + 1)) ∧ j (if d > a then d else a) (zy5 .i64 (b + 1)) < j a b)) else (bif decide (a > 8) then Q (.i 5) [] else Q (.i 0) [])))))) : Prop))))))) else Q (.i 1) [])) else Q (.i 1) [])) else Q (.i 1) []) : Prop))) : Prop)))) : PRun Tryz.prog 69 [] [(q24 4 [[.n 3, .n 2, .n 10, .l 2 [[.n 1, .n 3], [.n 2, .n 1]], .n 2, .n 3, .n 5], [.n 4, .n 1, .n 7, .l 2 [[.n 3, .n 2]], .n 0, .n 0, .n 3]] 2 [[.n 1, .n f, .n 1, .n 1000], [.n g, .n 1, .n h, .n 0]] 3 200 1 500)] Q :=
 zad mixTa6 Tryz.func69 (by kernel_rfl) (H := ⟨[((162, 5, 8), ⟨[(3, .I), (4, .I)], []⟩)], [], [159, 161, 162, 268, 269, 271, 272, 273, 274, 287, 334, 335, 336], [], [], false, 64, KN.no, false, SP.no⟩) (n := 7) (by kernel_rfl) hh
end
section
set_option maxRecDepth 1000000
open Go.Lib
variable {Q : V → Mem → Prop}
abbrev nV (l : List Int) : List Value := l.map (Value.int .i64)
theorem zbf (b : Nat) {T : TypeId} : ∀ (vs : List Value) (o : Nat) (w : World) (l : List Value), w.heap[b]? = some (.cells l.toArray T (0, 0)) → o + vs.length ≤ l.length →
 (w.setCells b o vs).heap[b]? = some (.cells (l.take o ++ vs ++ l.drop (o + vs.length)).toArray T (0, 0)) ∧ (∀ i, i ≠ b → (w.setCells b o vs).heap[i]? = w.heap[i]?) ∧ (w.setCells b o vs).heap.size = w.heap.size ∧ Same w (w.setCells b o vs)
 | [], o, w, l, h, ho => by
   refine ⟨?_, fun _ _ => rfl, rfl, Same.refl _⟩
   rw [zz7, z1a, z09, z0t]
   exact h
 | v :: r, o, w, l, h, ho => by
   have hol : o < l.length := by simp at ho; omega
   have e1 : (w.setCell ⟨b, o, none⟩ v).heap[b]? = some (.cells (l.set o v).toArray T (0, 0)) := by
    show (w.heap.modify b _)[b]? = _
    rw [z2c, if_pos rfl, h]
    simp
   have e2 : ∀ i, i ≠ b → (w.setCell ⟨b, o, none⟩ v).heap[i]? = w.heap[i]? := fun i hi => by
    show (w.heap.modify b _)[i]? = _
    rw [z2c, if_neg (Ne.symm hi)]
   obtain ⟨g1, g2, g3, g4⟩ := zbf b r (o + 1) (w.setCell ⟨b, o, none⟩ v) (l.set o v) e1 (by simp at ho ⊢; omega)
   refine ⟨?_, fun i hi => (g2 i hi).trans (e2 i hi), g3.trans (by simp), ?_⟩
   · show ((w.setCell ⟨b, o, none⟩ v).setCells b (o + 1) r).heap[b]? = _
     rw [g1]
     congr 3
     rw [z1g, z0f hol, List.take_set_of_le (zzk o), List.drop_set_of_lt (by omega)]
     simp only [Option.toList_some, zzj, List.singleton_append, zzr, z0g, z0i]
     rw [show o + 1 + r.length = o + (r.length + 1) by omega]
   · show Same w ((w.setCell ⟨b, o, none⟩ v).setCells b (o + 1) r)
     exact Same.trans (b := w.setCell ⟨b, o, none⟩ v) ⟨rfl, rfl, rfl, zzk _⟩ g4
theorem own_of {ps : List Value} {b c : Nat} (hc : l.length + ps.length = c) (hM : c ≤ 9223372036854775807) : Own D iT 1 (some ⟨b, 0, none⟩) c (l.map eI) [(b, .cells (nV l ++ ps).toArray iT (0, 0))] := by
 have key : ∀ (i j : Nat) (r : List U) (u : U), (l.map eI)[i]? = some r → r[j]? = some u → ∃ x, l[i]? = some x ∧ j = 0 ∧ u = .n x := fun i j r u hi hj => by
  rw [zzg] at hi
  obtain ⟨x, hx, rfl⟩ := z0q.1 hi
  cases j with
  | succ j => simp [eI] at hj
  | zero =>
    simp only [eI, z28, Option.some.injEq] at hj
    exact ⟨x, hx, rfl, hj.symm⟩
 refine .row b c _ _ (fun i j => match l[i]? with | some x => .int .i64 x | none => undef) (by simp; omega) ⟨by simp; omega, hM⟩ (fun r hr => by obtain ⟨x, -, rfl⟩ := zz6.1 hr; rfl) (fun i j r u hi hj => ?_) (fun i j r u hi hj => ?_)
 · obtain ⟨x, hx, rfl, rfl⟩ := key i j r u hi hj
   have hil := (zza.1 hx).1
   simp only [hx, Nat.mul_one, z09, z0l]
   rw [zzi (by simpa using hil), zzg, hx]
   rfl
 · obtain ⟨x, hx, rfl, rfl⟩ := key i j r u hi hj
   simp only [hx]
   exact .int _ _
theorem own_to {a : Option Addr} {c : Nat} {ch : zac} (o : Own D iT 1 a c (l.map eI) ch) : (l = [] ∧ c = 0 ∧ ch = []) ∨ ∃ b ps, a = some ⟨b, 0, none⟩ ∧ ch = [(b, .cells (nV l ++ ps).toArray iT (0, 0))] ∧ l.length + ps.length = c ∧ c ≤ 9223372036854775807 := by
 generalize hr : l.map eI = rows at o
 cases o with
 | nil => exact .inl ⟨by simpa using hr, rfl, rfl⟩
 | row b c arr rows v h1 h2 h3 h4 h5 =>
   subst hr
   have hl : l.length ≤ c := by simpa using h2.1
   refine .inr ⟨b, arr.toList.drop l.length, rfl, ?_, ?_, h2.2⟩
   · have : nV l = arr.toList.take l.length := by
      apply z1l
      intro i
      rw [zzg]
      by_cases hi : i < l.length
      · have hg := zzb hi
        have hm : (l.map eI)[i]? = some (eI l[i]) := by rw [zzg, hg]; rfl
        have k1 := h4 i 0 _ (.n l[i]) hm rfl
        have k2 := h5 i 0 _ (.n l[i]) hm rfl
        rw [Rd.int_iff.1 k2] at k1
        rw [hg, z0y, if_pos hi]
        simpa using k1.symm
      · rw [z0z (by omega), z0y, if_neg hi]; rfl
     rw [this, z0t]
   · have : arr.toList.length = c := by simpa using h1
     rw [z1w, this]
     omega
theorem insCall : zbj Tryz.prog 343 := ⟨Tryz.f343, Tryz.func343, by kernel_rfl, by kernel_rfl⟩
theorem zis (l : List Int) : ∀ v ∈ nV l, v.oneCell' = true := fun v hv => by
 obtain ⟨x, -, rfl⟩ := zz6.1 hv
 rfl
theorem zra {n c : Nat} (h : n ≤ c) : n + (Builtin.zeroCells (Value.int .i64 0).cells (c - n)).size = c := by
 simp only [Builtin.zeroCells, Array.size_map, Array.size_range]
 show n + (c - n) * 1 = c
 omega
abbrev zup (l : List Int) (i : Nat) (j : Int) : List Int := l.take i ++ j :: l.drop i
theorem zl6 (hi : i ≤ l.length) : (zup l i j).length = l.length + 1 := by
 unfold zup
 rw [zzx, zz9, zzr, z1w]
 omega
theorem ins_run {L0 : Loc} {vb vc : Nat} {c0 : zac} {C : List zac} {h : zaf} {vps : List Value} (own : Own D iT 1 L0.a L0.c (l.map eI) c0) (S : St D (c0 :: [(vb, .cells (nV [j] ++ vps).toArray iT (0, 0))] :: C) h) (hi : i ≤ l.length) (hl : l.length ≤ 1000) (hvc : 1 ≤ vc) :
 Run Tryz.prog 343 [.slice L0.a l.length L0.c, .int .i64 (i : Nat), .slice (some ⟨vb, 0, none⟩) 1 vc] h fun v h' => ∃ a' c' ch', v = .slice a' (l.length + 1) c' ∧ Own D iT 1 a' c' ((zup l i j).map eI) ch' ∧ St D (ch' :: C) h' := by
 have hvb : h[vb]? = some (.cells (nV [j] ++ vps).toArray iT (0, 0)) := S.own (vb, _) (by simp)
 have SC : St D (c0 :: C) h := by
  have : St D ([(vb, .cells (nV [j] ++ vps).toArray iT (0, 0))] :: c0 :: C) h := S.perm (by simp only [zzp]; exact z0d _ _ _)
  exact this.drop
 refine ⟨insCall, fun w hw => ?_⟩
 subst hw
 have hpl := zl6 (l := l) (i := i) (j := j) hi
 have hvs : ∀ k v, (nV [j])[k]? = some v → w.cell? ⟨vb, 0 + k, none⟩ = some v := fun k v hv => by
  show hcell w.heap _ = _
  rw [za0 hvb, zzo]
  simp only [z0l]
  exact zai hv
 -- a new row
 have newR : ∀ {e : Ending} {w' : World} (c' : Nat) (cells : List Value), l.length + 1 ≤ c' → c' ≤ 9223372036854775807 → e = .returned (.slice (some ⟨w.heap.size, 0, none⟩) (l.length + 1) c') → w'.heap[w.heap.size]? = some (.cells (nV (zup l i j) ++ cells).toArray iT (0, 0)) → l.length + 1 + cells.length = c' →
  (∀ k, k ≠ w.heap.size → w'.heap[k]? = w.heap[k]?) → w'.heap.size = w.heap.size + 1 → Same w w' → ∃ v, e = .returned v ∧ (∃ a' c' ch', v = .slice a' (l.length + 1) c' ∧ Own D iT 1 a' c' ((zup l i j).map eI) ch' ∧ St D (ch' :: C) w'.heap) ∧ Same w w' := by
  rintro e w' c' cells h1 h2 rfl h3 h4 h5 h6 h7
  refine ⟨_, rfl, ⟨_, c', _, rfl, own_of (ps := cells) (b := w.heap.size) (by rw [hpl]; exact h4) h2, ?_⟩, h7⟩
  refine SC.upd ⟨by omega, fun k hk _ => h5 k (by omega)⟩ (by simpa using h3) (by simp) (fun p hp => .inr (by simp at hp; rw [hp]; exact zzk _))
 rcases own_to own with ⟨rfl, hc0, rfl⟩ | ⟨b, ps, ha, rfl, hc, hM⟩
 · have hi0 : i = 0 := by simpa using hi
   subst hi0
   rw [hc0]
   refine (Any2.slices_Insert_int_end_grow Tryz.insL L0.a 0 0 vb 0 1 vc [] (nV [j]) w (by decide) (zzk _) (by decide) (by decide) rfl rfl (fun _ => rfl) (fun _ _ k v hv => by simp at hv) hvs (zis _)).mono ?_
   rintro e w' ⟨he, rfl⟩
   have hg1 : 0 + 1 ≤ grownCap w (0 + 1) 0 iT := by simp [grownCap, Question.cut]
   have hg2 : grownCap w (0 + 1) 0 iT ≤ 9223372036854775807 := by
    have := Nat.mod_lt (w.tape w.drawn (.appendCap (0 + 1) 0 iT)) (show 2 ^ 63 - (0 + 1) > 0 by omega)
    simp only [grownCap, Question.cut]; omega
   refine newR _ (Builtin.zeroCells (Value.int .i64 0).cells (grownCap w (0 + 1) 0 iT - (0 + 1))).toList hg1 hg2 he ?_ ?_ (fun k hk => ?_) (by show (w.heap.push _).size = _; rw [z3i]) ⟨rfl, rfl, rfl, z0u _⟩
   · show (w.heap.push _)[w.heap.size]? = _
     rw [z3j]
     congr 2
     rw [← z00 (xs := _ ++ _)]
     congr 1
     rw [z3w]
     rfl
   · rw [z2d]; exact zra hg1
   · show (w.heap.push _)[k]? = _
     rw [z23, if_neg hk]
 · rw [ha]
   have hb : w.heap[b]? = some (.cells (nV l ++ ps).toArray iT (0, 0)) := SC.own (b, _) (by simp)
   have hnl : (nV l).length = l.length := zzc _
   have hcl : (nV l ++ ps).length = L0.c := by rw [zzx, hnl]; exact hc
   have hcs : ∀ k v, (nV l)[k]? = some v → w.cell? ⟨b, 0 + k, none⟩ = some v := fun k v hv => by
    show hcell w.heap _ = _
    rw [za0 hb, zzo]
    simp only [z0l]
    exact zai hv
   have hsp : ∀ k, k < L0.c → (w.cell? ⟨b, 0 + k, none⟩).isSome = true := fun k hk => by
    have : w.cell? ⟨b, 0 + k, none⟩ = hcell w.heap ⟨b, 0 + k, none⟩ := rfl
    rw [this, za0 hb, zzo]
    simp only [z0l]
    rw [zzb (by omega)]
    rfl
   have hfz : ∀ k, w.frozen? ⟨b, k, none⟩ = false := fun k => by
    show zi4 w.heap _ = false
    unfold zi4
    rw [hb]
    simp
   -- in place
   have oldR : ∀ {e : Ending} {w' : World} (cells : List Value), l.length + 1 ≤ L0.c → e = .returned (.slice (some ⟨b, 0, none⟩) (l.length + 1) L0.c) → w'.heap[b]? = some (.cells (nV (zup l i j) ++ cells).toArray iT (0, 0)) → l.length + 1 + cells.length = L0.c →
    (∀ k, k ≠ b → w'.heap[k]? = w.heap[k]?) → w'.heap.size = w.heap.size → Same w w' → ∃ v, e = .returned v ∧ (∃ a' c' ch', v = .slice a' (l.length + 1) c' ∧ Own D iT 1 a' c' ((zup l i j).map eI) ch' ∧ St D (ch' :: C) w'.heap) ∧ Same w w' := by
    rintro e w' cells h1 rfl h3 h4 h5 h6 h7
    refine ⟨_, rfl, ⟨_, _, _, rfl, own_of (ps := cells) (b := b) (by rw [hpl]; exact h4) hM, ?_⟩, h7⟩
    refine SC.upd ⟨by omega, fun k hk hk2 => h5 k (by simpa using hk2)⟩ (by simpa using h3) (by simp) (fun p hp => .inl (by simp at hp; rw [hp]; simp))
   by_cases hin : i = l.length
   · subst hin
     by_cases hroom : l.length + 1 ≤ L0.c
     · refine (Any2.slices_Insert_int_end_room Tryz.insL b 0 l.length L0.c vb 0 1 vc (nV [j]) w (by decide) hroom hM rfl (fun k hk => ?_) (fun k hk => hfz _) hvs (zis _)).mono ?_
       · have := hsp (l.length + k) (by omega)
         rwa [← z04] at this
       · rintro e w' ⟨he, rfl⟩
         obtain ⟨g1, g2, g3, g4⟩ := zbf b (nV [j]) (0 + l.length) w _ hb (by rw [hcl]; show 0 + l.length + 1 ≤ _; omega)
         refine oldR (ps.drop 1) hroom he (g1.trans ?_) (by rw [z1w]; omega) g2 g3 g4
         congr 3
         rw [zzo]
         unfold zup nV
         simp only [z0m, List.drop_length, zz2, zzv, z1m, zzr, z1a]
         rw [List.take_left' (by simp), z2s, z05 (by simp), zzc, show l.length + (0 + 1) - l.length = 1 by omega, z0i]
     · have hg1 : l.length + 1 ≤ grownCap w (l.length + 1) L0.c iT := by simp [grownCap, Question.cut]
       have hg2 : grownCap w (l.length + 1) L0.c iT ≤ 9223372036854775807 := by
        have := Nat.mod_lt (w.tape w.drawn (.appendCap (l.length + 1) L0.c iT)) (show 2 ^ 63 - (l.length + 1) > 0 by omega)
        simp only [grownCap, Question.cut]; omega
       refine (Any2.slices_Insert_int_end_grow Tryz.insL (some ⟨b, 0, none⟩) l.length L0.c vb 0 1 vc (nV l) (nV [j]) w (by decide) (by omega) (by omega) (by omega) hnl rfl (fun h => by cases h) (fun a ha k v hv => by cases ha; rw [Addr.add_lit]; exact hcs k v hv) hvs (zis _)).mono ?_
       rintro e w' ⟨he, rfl⟩
       refine newR _ (Builtin.zeroCells (Value.int .i64 0).cells (grownCap w (l.length + 1) L0.c iT - (l.length + 1))).toList hg1 hg2 he ?_ ?_ (fun k hk => ?_) (by show (w.heap.push _).size = _; rw [z3i]) ⟨rfl, rfl, rfl, z0u _⟩
       · show (w.heap.push _)[w.heap.size]? = _
         rw [z3j]
         congr 2
         rw [← z00 (xs := _ ++ _)]
         congr 1
         rw [z3w]
         unfold zup nV
         simp
         rfl
       · rw [z2d]; exact zra hg1
       · show (w.heap.push _)[k]? = _
         rw [z23, if_neg hk]
   · have hlt : i < l.length := by omega
     have hdl : ((nV l).drop i).length = l.length - i := by rw [z1w, hnl]
     by_cases hroom : l.length + 1 ≤ L0.c
     · have hne : vb ≠ b := by
        have := S.nd
        simp [ids] at this
        exact fun e => this.1.1 e.symm
       refine (Any2.slices_Insert_int_shift Tryz.insL b 0 l.length L0.c i vb 0 1 vc (nV l) (nV [j]) w hlt (by decide) hroom hM hne hnl rfl hcs (fun k hk => hsp k (by omega)) (fun k hk => hfz _) hvs (zis _) (zis _) iT iT (nV [j] ++ vps).toArray.size (nV l ++ ps).toArray.size
        (by show zov w.heap vb = _; unfold zov; rw [hvb]) (by show zov w.heap b = _; unfold zov; rw [hb]) (by rw [z1b, hcl]; omega) (by show zi4 w.heap _ = false; unfold zi4; rw [hvb]; simp) (by show zi4 w.heap _ = false; unfold zi4; rw [hvb]; simp)).mono ?_
       rintro e w' ⟨he, rfl⟩
       obtain ⟨g1, g2, g3, g4⟩ := zbf b ((nV l).drop i) (0 + (i + 1)) w.drew _ hb (by rw [hcl, hdl]; omega)
       obtain ⟨f1, f2, f3, f4⟩ := zbf b (nV [j]) (0 + i) (w.drew.setCells b (0 + (i + 1)) ((nV l).drop i)) _ g1 (by simp [hdl, hcl]; omega)
       refine oldR (ps.drop 1) hroom he (f1.trans ?_) (by rw [z1w]; omega) (fun k hk => (f2 k hk).trans (g2 k hk)) (f3.trans g3) (Same.trans (b := w.drew) ⟨rfl, rfl, rfl, z0u _⟩ (g4.trans f4))
       congr 3
       rw [zzo, zzo, hdl]
       have t1 : (List.take (i + 1) (nV l ++ ps) ++ (nV l).drop i ++ List.drop (i + 1 + (l.length - i)) (nV l ++ ps)).take i = (nV l).take i := by
        rw [zzj, z2v (by simp; omega), List.take_take, Nat.min_eq_left (by omega), z2v (by omega)]
       have t2 : (List.take (i + 1) (nV l ++ ps) ++ (nV l).drop i ++ List.drop (i + 1 + (l.length - i)) (nV l ++ ps)).drop (i + 1) = (nV l).drop i ++ ps.drop 1 := by
        have hA : (List.take (i + 1) (nV l ++ ps)).length = i + 1 := by rw [zz9, hcl]; omega
        rw [zzj, List.drop_left' hA, show i + 1 + (l.length - i) = (nV l).length + 1 by omega]
        congr 1
        rw [z2s, z05 (z0u _), z0i, Nat.add_sub_cancel_left]
       rw [t1, show i + (nV [j]).length = i + 1 from rfl, t2]
       unfold zup nV
       simp [z1e, z1s]
     · have hg1 : l.length + 1 ≤ grownCap w (l.length + 1) L0.c iT := by simp [grownCap, Question.cut]
       have hg2 : grownCap w (l.length + 1) L0.c iT ≤ 9223372036854775807 := by
        have := Nat.mod_lt (w.tape w.drawn (.appendCap (l.length + 1) L0.c iT)) (show 2 ^ 63 - (l.length + 1) > 0 by omega)
        simp only [grownCap, Question.cut]; omega
       refine (Any2.slices_Insert_int_grow Tryz.insL b 0 l.length L0.c i vb 0 1 vc (nV l) (nV [j]) w hlt (by decide) (by omega) (by omega) (by omega) hnl rfl hcs hvs (zis _) (zis _)).mono ?_
       rintro e w' ⟨he, rfl⟩
       generalize hZ1 : Builtin.zeroCells (Value.int .i64 0).cells (l.length + 1 - i) = Z1
       generalize hZ2 : Builtin.zeroCells (Value.int .i64 0).cells (grownCap w (l.length + 1) L0.c (Go.Shelf.Ren.t Tryz.insL_ren 3) - (l.length + 1)) = Z2
       have z1 : Z1.size = l.length + 1 - i := by
        have := zra (n := 0) (c := l.length + 1 - i) (zz3 _)
        rw [Nat.sub_zero, hZ1] at this; omega
       have z2 : l.length + 1 + Z2.size = grownCap w (l.length + 1) L0.c iT := by rw [← hZ2]; exact zra hg1
       have ea : ((nV l).take i).toArray ++ Z1 ++ Z2 = ((nV l).take i ++ Z1.toList ++ Z2.toList).toArray := by
        rw [← z00 (xs := _ ++ Z2)]
        simp
       rw [ea]
       have hw0 : (w.alloc (.cells ((nV l).take i ++ Z1.toList ++ Z2.toList).toArray iT (0, 0))).drew.heap[w.heap.size]? = some (.cells ((nV l).take i ++ Z1.toList ++ Z2.toList).toArray iT (0, 0)) := by
        show (w.heap.push _)[w.heap.size]? = _
        rw [z3j]
       have htl : ((nV l).take i).length = i := by rw [zz9, hnl]; omega
       obtain ⟨g1, g2, g3, g4⟩ := zbf w.heap.size (nV [j]) i _ _ hw0 (by simp [z1]; omega)
       obtain ⟨f1, f2, f3, f4⟩ := zbf w.heap.size ((nV l).drop i) (i + 1) (((w.alloc (.cells ((nV l).take i ++ Z1.toList ++ Z2.toList).toArray iT (0, 0))).drew.setCells w.heap.size i (nV [j])).drew) _ g1 (by simp [z1]; omega)
       refine newR _ Z2.toList hg1 hg2 he (f1.trans ?_) (by rw [z2d]; exact z2) (fun k hk => (f2 k hk).trans ((g2 k hk).trans ?_)) (f3.trans (g3.trans ?_)) ?_
       · congr 3
         have t1 : ((nV l).take i ++ Z1.toList ++ Z2.toList).take i = (nV l).take i := by
          rw [zzj, z2v (by omega), z06 (by omega)]
         rw [t1, show i + (nV [j]).length = i + 1 from rfl]
         have t2 : ((nV l).take i ++ nV [j] ++ List.drop (i + 1) ((nV l).take i ++ Z1.toList ++ Z2.toList)).take (i + 1) = (nV l).take i ++ nV [j] := by
          rw [z2v (by simp; omega), z06 (by simp; omega)]
         have t3 : ((nV l).take i ++ nV [j] ++ List.drop (i + 1) ((nV l).take i ++ Z1.toList ++ Z2.toList)).drop (i + 1 + ((nV l).drop i).length) = Z2.toList := by
          rw [z2s, z05 (by simp; omega), z0i, z1j, hdl]
          have e1 : ((nV l).take i ++ nV [j]).length = i + 1 := by simp; omega
          rw [e1, show i + 1 + (i + 1 + (l.length - i) - (i + 1)) = l.length + 1 by omega, z2s, z05 (by simp [z1]; omega), z0i]
          have e2 : ((nV l).take i ++ Z1.toList).length = l.length + 1 := by simp [z1]; omega
          rw [e2, Nat.sub_self, z1k]
         rw [t2, t3]
         unfold zup nV
         simp [z1e, z1s]
       · show (w.heap.push _)[k]? = _
         rw [z23, if_neg hk]
       · show (w.heap.push _).size = _
         rw [z3i]
       · exact Same.trans (b := (w.alloc (.cells ((nV l).take i ++ Z1.toList ++ Z2.toList).toArray iT (0, 0))).drew) ⟨rfl, rfl, rfl, z0u _⟩ (g4.trans (Same.trans (b := ((w.alloc (.cells ((nV l).take i ++ Z1.toList ++ Z2.toList).toArray iT (0, 0))).drew.setCells w.heap.size i (nV [j])).drew) ⟨rfl, rfl, rfl, z0u _⟩ f4))
theorem zou (hi : i ≤ l.length) (hl : l.length ≤ 1000) (k : Q (.w 2) [.x, .x, .w iT 1 ((zup l i j).map eI)]) :
 PRun Tryz.prog 343 [.w iT 1 (l.map eI), .w iT 1 [[.n j]]] [.w 0, .i (i : Nat), .w 1] Q := by
 intro D ρ chs C h vs M F
 obtain ⟨L0, L1, rfl⟩ : ∃ L0 L1, ρ = [L0, L1] := by
  have := M.len
  match ρ, this with
  | [a, b], _ => exact ⟨a, b, rfl⟩
 obtain ⟨c0, c1, rfl⟩ : ∃ c0 c1, chs = [c0, c1] := by
  have := M.lch
  match chs, this with
  | [a, b], _ => exact ⟨a, b, rfl⟩
 have e0 := M.ent 0 L0 _ c0 rfl rfl rfl
 have e1 := M.ent 1 L1 _ c1 rfl rfl rfl
 have S : St D (c0 :: c1 :: C) h := M.st
 cases F with
 | cons a1 F =>
 cases F with
 | cons a2 F =>
 cases F with
 | cons a3 F =>
 cases F
 obtain ⟨L0', hL0, rfl⟩ := a1.w_inv
 have : L0' = L0 := by simpa using hL0.symm
 subst this
 obtain ⟨L1', hL1, rfl⟩ := a3.w_inv
 have : L1' = L1 := by simpa using hL1.symm
 subst this
 have := zhg a2
 subst this
 cases e0 with
 | w own hn =>
 cases e1 with
 | w own1 hn1 =>
 rw [zzc] at hn
 have hn1 : L1'.n = 1 := hn1
 rcases own_to (l := [j]) own1 with ⟨h0, -⟩ | ⟨vb, vps, ha, rfl, hc, hM⟩
 · cases h0
 rw [hn, hn1, ha]
 refine (ins_run own S hi hl (by simp at hc; omega)).mono ?_
 rintro v h2 ⟨a', c', ch', rfl, own2, S2⟩
 refine ⟨D, [⟨0, a', l.length + 1, c', none⟩], [[], [], ch'], .w 2, _, .refl D, ⟨rfl, rfl, fun i L ab ch q1 q2 q3 => ?_, S2.perm (by simp only [zzp, z0g, z0i]; exact .refl _)⟩, .w (L := ⟨0, a', l.length + 1, c', none⟩) rfl, k⟩
 match i, q1, q2, q3 with
 | 0, q1, q2, q3 => cases q1; cases q2; cases q3; exact .x
 | 1, q1, q2, q3 => cases q1; cases q2; cases q3; exact .x
 | 2, q1, q2, q3 => cases q1; cases q2; cases q3; exact .w own2 (by rw [zzc, zl6 hi])
 | i + 3, q1, q2, q3 => simp at q2
end
section
set_option maxRecDepth 1000000
variable {Q : V → Mem → Prop}
structure Sd where
 n : Int
 run : List Int
 wait : List Int
section
variable {mp : List (MK × List U)} {a b c d : Sd}
abbrev MBy (mp : List (MK × List U)) (a b c d : Sd) : Mem := [.c [.w 1, .m 2], .cw 270 3 4 [.i a.n, .w 3, .w 4, .i b.n, .w 5, .w 6, .i c.n, .w 7, .w 8, .i d.n, .w 9, .w 10], .p .n 1 false mp, .w iT 1 (a.run.map eI), .w iT 1 (a.wait.map eI), .w iT 1 (b.run.map eI), .w iT 1 (b.wait.map eI), .w iT 1 (c.run.map eI), .w iT 1 (c.wait.map eI), .w iT 1 (d.run.map eI), .w iT 1 (d.wait.map eI)]
theorem zc7 {F : Int → Bool → List (List U) → Prop} : post [.I, .B] [.row iT 1] F (.t [.i n, .u (.b x)]) [.w iT 1 r] = F n x r := rfl
theorem zme {F : Bool → List (List U) → Prop} : post [.B] [.row iT 1] F (.u (.b x)) [.w iT 1 r] = F x r := rfl
theorem zc5 {F : List (List U) → Prop} : post [.one (.ow iT 1)] [.X, .X] F (.w 2) [.x, .x, .w iT 1 r] = F r := rfl
theorem zc6 : post [.one (.ow iT 1)] [.X, .c [.i .i64]] F (.w 2) [.x, .c [.i j], .w iT 1 r] = F r j := rfl
theorem zmb {F : List (List U) → Prop} : post [.one (.ow iT 1)] [] F (.w 0) [.w iT 1 r] = F r := rfl
theorem zd9 {F : List (List U) → List (List U) → Prop} {s : List (List U)} : post [.L 1] [.row iT 1] F (.l 1 r) [.w iT 1 s] = F r s := rfl
theorem zc3 : zy5 .i64 (Int.tdiv 4 2) = 2 := by decide
theorem zn0 {of : Int} (h1 : 1 ≤ bay ∧ bay ≤ 2) (h2 : 0 ≤ of ∧ of ≤ 1) : zy5 .i64 (zy5 .i64 (2 * zy5 .i64 (bay - 1)) + of) = 2 * (bay - 1) + of := by
 rw [w64 (x := bay - 1) (by omega) (by omega), w64 (x := 2 * (bay - 1)) (by omega) (by omega), w64 (by omega) (by omega)]
theorem zgv (h : l.Pairwise (· < ·)) : (l.filter (· != j)).Pairwise (· < ·) := h.filter _
theorem ask0 {of : Int} (h1 : 1 ≤ bay ∧ bay ≤ 2) (h2 : 0 ≤ of ∧ of ≤ 1) (hk : 2 * (bay - 1) + of = 0) (hj : 1 ≤ j ∧ j ≤ 1099511627776) (hno : zbs mp (.n j) = none) (hs : a.run.Pairwise (· < ·)) (hl : a.run.length ≤ 8) (hw : a.wait.length ≤ 8)
 (hroom : (a.run.length : Int) < a.n ∨ (a.n ≠ 0 ∧ a.wait.length < 8))
 (k1 : (a.run.length : Int) < a.n → Q (.t [.u (.b true), .i 0]) [.c [.w 1, .m 2], .cw 270 3 4 [.i a.n, .w 11, .w 4, .i b.n, .w 5, .w 6, .i c.n, .w 7, .w 8, .i d.n, .w 9, .w 10], .p .n 1 false (za3 mp (.n j) [.n 0]), .x, .w iT 1 (a.wait.map eI), .w iT 1 (b.run.map eI), .w iT 1 (b.wait.map eI), .w iT 1 (c.run.map eI), .w iT 1 (c.wait.map eI), .w iT 1 (d.run.map eI), .w iT 1 (d.wait.map eI), .w iT 1 ((zi2 j a.run).map eI)])
 (k2 : ¬ (a.run.length : Int) < a.n → Q (.t [.u (.b false), .i 0]) [.c [.w 1, .m 2], .cw 270 3 4 [.i a.n, .w 3, .w 11, .i b.n, .w 5, .w 6, .i c.n, .w 7, .w 8, .i d.n, .w 9, .w 10], .p .n 1 false (za3 mp (.n j) [.n 0]), .w iT 1 (a.run.map eI), .x, .w iT 1 (b.run.map eI), .w iT 1 (b.wait.map eI), .w iT 1 (c.run.map eI), .w iT 1 (c.wait.map eI), .w iT 1 (d.run.map eI), .w iT 1 (d.wait.map eI), .w iT 1 (a.wait.map eI ++ [eI j])]) :
 PRun Tryz.prog 199 (MBy mp a b c d) [.r 0 0, .i bay, .i of, .i j] Q := by
 refine S199k0 (cIf (fun h => by omega) fun _ => ⟨by decide, ?_⟩)
 rw [zc3]
 refine cIf (fun h => by omega) fun _ => cIf (fun h => by omega) fun _ => cIf (fun h => by omega) fun _ => ⟨by rw [zn0 h1 h2]; exact hk, ?_⟩
 refine cIf (fun _ => ?_) fun h => by omega
 rw [decide_eq_true hj.2]
 simp only [z0p, cond_false]
 rw [hno]
 refine ⟨by decide, by decide, ?_⟩
 simp only [zzc]
 refine cIf (fun h => ?_) fun h => ?_
 · rw [decide_eq_true h]
   refine zej hs (by omega) fun q => ?_
   rw [zc7]
   refine zou (ze9 _ _) (by omega) ?_
   rw [zc5]
   exact k1 h
 · rw [decide_eq_false h]
   refine cEq (fun e => by omega) fun _ => cIf (fun e => by omega) fun _ => ⟨?_, ?_⟩
   · unfold zak; simp; omega
   · exact k2 h
theorem leave0 (hm : zbs mp (.n j) = some [.n 0]) (hs : a.run.Pairwise (· < ·)) (hl : a.run.length ≤ 8) (hw : a.wait.length ≤ 8)
 (k1 : a.run.contains j = false ∨ a.wait.filter (· != j) = [] → Q (.t [.i 0, .i 0]) [.c [.w 1, .m 2], .cw 270 3 4 [.i a.n, .w 11, .w 12, .i b.n, .w 5, .w 6, .i c.n, .w 7, .w 8, .i d.n, .w 9, .w 10], .p .n 1 false (zdm mp (.n j)), .x, .x, .w iT 1 (b.run.map eI), .w iT 1 (b.wait.map eI), .w iT 1 (c.run.map eI), .w iT 1 (c.wait.map eI), .w iT 1 (d.run.map eI), .w iT 1 (d.wait.map eI), .w iT 1 ((a.run.filter (· != j)).map eI), .w iT 1 ((a.wait.filter (· != j)).map eI)])
 (k2 : ∀ w ws, a.run.contains j = true → a.wait.filter (· != j) = w :: ws → Q (.t [.i w, .i 0]) [.c [.w 1, .m 2], .cw 270 3 4 [.i a.n, .w 11, .w 12, .i b.n, .w 5, .w 6, .i c.n, .w 7, .w 8, .i d.n, .w 9, .w 10], .p .n 1 false (zdm mp (.n j)), .x, .x, .w iT 1 (b.run.map eI), .w iT 1 (b.wait.map eI), .w iT 1 (c.run.map eI), .w iT 1 (c.wait.map eI), .w iT 1 (d.run.map eI), .w iT 1 (d.wait.map eI), .w iT 1 ((zi2 w (a.run.filter (· != j))).map eI), .w iT 1 (ws.map eI)]) :
 PRun Tryz.prog 211 (MBy mp a b c d) [.r 0 0, .i j] Q := by
 refine S211k0 ?_
 rw [hm]
 simp only [mO, ug0, zbo]
 refine ⟨by first | trivial | rfl, by decide, by decide, zm6 (by omega) ?_⟩
 rw [zme]
 refine zo8 (by omega) ?_
 rw [zc6]
 refine zo8 (by omega) ?_
 rw [zc6]
 have hf1 : (a.run.filter (· != j)).length ≤ a.run.length := z0n _ _
 have hf2 : (a.wait.filter (· != j)).length ≤ a.wait.length := z0n _ _
 cases hc : a.run.contains j with
 | false => exact k1 (.inl hc)
 | true =>
   rw [z0p, cond_false]
   cases hx : a.wait.filter (· != j) with
   | nil =>
     have := k1 (.inr hx)
     rw [hx] at this
     exact this
   | cons w ws =>
     rw [hx] at hf2
     simp only [zzr] at hf2
     simp only [zzc, zzr]
     refine cEq (fun e => by omega) fun _ => ⟨by decide, by omega, ?_⟩
     rw [zah (r := eI w) (by decide) rfl]
     simp only [eI, ug0, ugs, zbo]
     refine ⟨by decide, by omega, zzw _, ?_⟩
     have e : List.drop 1 (List.take (ws.length + 1) (zzq eI (w :: ws))) = ws.map eI := by
      rw [z06 (by simp)]; rfl
     rw [e]
     refine ze0 (by omega) ?_
     rw [zmb]
     refine zej (zgv hs) (by omega) fun q => ?_
     rw [zc7]
     refine zou (ze9 _ _) (by omega) ?_
     rw [zc5]
     exact k2 w ws hc hx
theorem free0 {of : Int} (h1 : 1 ≤ bay ∧ bay ≤ 2) (h2 : 0 ≤ of ∧ of ≤ 1) (hk : 2 * (bay - 1) + of = 0) (hl : a.run.length ≤ 8) (hn : 0 ≤ a.n ∧ a.n ≤ 8)
 (k1 : Q (.t [.i (a.n - (a.run.length : Int)), .i 0]) (MBy mp a b c d)) : PRun Tryz.prog 213 (MBy mp a b c d) [.r 0 0, .i bay, .i of] Q := by
 refine S213k0 (cIf (fun h => by omega) fun _ => ⟨by decide, ?_⟩)
 rw [zc3]
 refine cIf (fun h => by omega) fun _ => cIf (fun h => by omega) fun _ => cIf (fun h => by omega) fun _ => ⟨by rw [zn0 h1 h2]; exact hk, ?_⟩
 refine ⟨by decide, by decide, by decide, by decide, ?_⟩
 rw [zzc, w64 (by omega) (by omega)]
 exact k1
theorem ask1 {of : Int} (h1 : 1 ≤ bay ∧ bay ≤ 2) (h2 : 0 ≤ of ∧ of ≤ 1) (hk : 2 * (bay - 1) + of = 1) (hj : 1 ≤ j ∧ j ≤ 1099511627776) (hno : zbs mp (.n j) = none) (hs : b.run.Pairwise (· < ·)) (hl : b.run.length ≤ 8) (hw : b.wait.length ≤ 8)
 (hroom : (b.run.length : Int) < b.n ∨ (b.n ≠ 0 ∧ b.wait.length < 8))
 (k1 : (b.run.length : Int) < b.n → Q (.t [.u (.b true), .i 0]) [.c [.w 1, .m 2], .cw 270 3 4 [.i a.n, .w 3, .w 4, .i b.n, .w 11, .w 6, .i c.n, .w 7, .w 8, .i d.n, .w 9, .w 10], .p .n 1 false (za3 mp (.n j) [.n 1]), .w iT 1 (a.run.map eI), .w iT 1 (a.wait.map eI), .x, .w iT 1 (b.wait.map eI), .w iT 1 (c.run.map eI), .w iT 1 (c.wait.map eI), .w iT 1 (d.run.map eI), .w iT 1 (d.wait.map eI), .w iT 1 ((zi2 j b.run).map eI)])
 (k2 : ¬ (b.run.length : Int) < b.n → Q (.t [.u (.b false), .i 0]) [.c [.w 1, .m 2], .cw 270 3 4 [.i a.n, .w 3, .w 4, .i b.n, .w 5, .w 11, .i c.n, .w 7, .w 8, .i d.n, .w 9, .w 10], .p .n 1 false (za3 mp (.n j) [.n 1]), .w iT 1 (a.run.map eI), .w iT 1 (a.wait.map eI), .w iT 1 (b.run.map eI), .x, .w iT 1 (c.run.map eI), .w iT 1 (c.wait.map eI), .w iT 1 (d.run.map eI), .w iT 1 (d.wait.map eI), .w iT 1 (b.wait.map eI ++ [eI j])]) :
 PRun Tryz.prog 199 (MBy mp a b c d) [.r 0 0, .i bay, .i of, .i j] Q := by
 refine S199k1 (cIf (fun h => by omega) fun _ => ⟨by decide, ?_⟩)
 rw [zc3]
 refine cIf (fun h => by omega) fun _ => cIf (fun h => by omega) fun _ => cIf (fun h => by omega) fun _ => ⟨by rw [zn0 h1 h2]; exact hk, ?_⟩
 refine cIf (fun _ => ?_) fun h => by omega
 rw [decide_eq_true hj.2]
 simp only [z0p, cond_false]
 rw [hno]
 refine ⟨by decide, by decide, ?_⟩
 simp only [zzc]
 refine cIf (fun h => ?_) fun h => ?_
 · rw [decide_eq_true h]
   refine zej hs (by omega) fun q => ?_
   rw [zc7]
   refine zou (ze9 _ _) (by omega) ?_
   rw [zc5]
   exact k1 h
 · rw [decide_eq_false h]
   refine cEq (fun e => by omega) fun _ => cIf (fun e => by omega) fun _ => ⟨?_, ?_⟩
   · unfold zak; simp; omega
   · exact k2 h
theorem leave1 (hm : zbs mp (.n j) = some [.n 1]) (hs : b.run.Pairwise (· < ·)) (hl : b.run.length ≤ 8) (hw : b.wait.length ≤ 8)
 (k1 : b.run.contains j = false ∨ b.wait.filter (· != j) = [] → Q (.t [.i 0, .i 0]) [.c [.w 1, .m 2], .cw 270 3 4 [.i a.n, .w 3, .w 4, .i b.n, .w 11, .w 12, .i c.n, .w 7, .w 8, .i d.n, .w 9, .w 10], .p .n 1 false (zdm mp (.n j)), .w iT 1 (a.run.map eI), .w iT 1 (a.wait.map eI), .x, .x, .w iT 1 (c.run.map eI), .w iT 1 (c.wait.map eI), .w iT 1 (d.run.map eI), .w iT 1 (d.wait.map eI), .w iT 1 ((b.run.filter (· != j)).map eI), .w iT 1 ((b.wait.filter (· != j)).map eI)])
 (k2 : ∀ w ws, b.run.contains j = true → b.wait.filter (· != j) = w :: ws → Q (.t [.i w, .i 0]) [.c [.w 1, .m 2], .cw 270 3 4 [.i a.n, .w 3, .w 4, .i b.n, .w 11, .w 12, .i c.n, .w 7, .w 8, .i d.n, .w 9, .w 10], .p .n 1 false (zdm mp (.n j)), .w iT 1 (a.run.map eI), .w iT 1 (a.wait.map eI), .x, .x, .w iT 1 (c.run.map eI), .w iT 1 (c.wait.map eI), .w iT 1 (d.run.map eI), .w iT 1 (d.wait.map eI), .w iT 1 ((zi2 w (b.run.filter (· != j))).map eI), .w iT 1 (ws.map eI)]) :
 PRun Tryz.prog 211 (MBy mp a b c d) [.r 0 0, .i j] Q := by
 refine S211k1 ?_
 rw [hm]
 simp only [mO, ug0, zbo]
 refine ⟨by first | trivial | rfl, by decide, by decide, zm6 (by omega) ?_⟩
 rw [zme]
 refine zo8 (by omega) ?_
 rw [zc6]
 refine zo8 (by omega) ?_
 rw [zc6]
 have hf1 : (b.run.filter (· != j)).length ≤ b.run.length := z0n _ _
 have hf2 : (b.wait.filter (· != j)).length ≤ b.wait.length := z0n _ _
 cases hc : b.run.contains j with
 | false => exact k1 (.inl hc)
 | true =>
   rw [z0p, cond_false]
   cases hx : b.wait.filter (· != j) with
   | nil =>
     have := k1 (.inr hx)
     rw [hx] at this
     exact this
   | cons w ws =>
     rw [hx] at hf2
     simp only [zzr] at hf2
     simp only [zzc, zzr]
     refine cEq (fun e => by omega) fun _ => ⟨by decide, by omega, ?_⟩
     rw [zah (r := eI w) (by decide) rfl]
     simp only [eI, ug0, ugs, zbo]
     refine ⟨by decide, by omega, zzw _, ?_⟩
     have e : List.drop 1 (List.take (ws.length + 1) (zzq eI (w :: ws))) = ws.map eI := by
      rw [z06 (by simp)]; rfl
     rw [e]
     refine ze0 (by omega) ?_
     rw [zmb]
     refine zej (zgv hs) (by omega) fun q => ?_
     rw [zc7]
     refine zou (ze9 _ _) (by omega) ?_
     rw [zc5]
     exact k2 w ws hc hx
theorem free1 {of : Int} (h1 : 1 ≤ bay ∧ bay ≤ 2) (h2 : 0 ≤ of ∧ of ≤ 1) (hk : 2 * (bay - 1) + of = 1) (hl : b.run.length ≤ 8) (hn : 0 ≤ b.n ∧ b.n ≤ 8)
 (k1 : Q (.t [.i (b.n - (b.run.length : Int)), .i 0]) (MBy mp a b c d)) : PRun Tryz.prog 213 (MBy mp a b c d) [.r 0 0, .i bay, .i of] Q := by
 refine S213k1 (cIf (fun h => by omega) fun _ => ⟨by decide, ?_⟩)
 rw [zc3]
 refine cIf (fun h => by omega) fun _ => cIf (fun h => by omega) fun _ => cIf (fun h => by omega) fun _ => ⟨by rw [zn0 h1 h2]; exact hk, ?_⟩
 refine ⟨by decide, by decide, by decide, by decide, ?_⟩
 rw [zzc, w64 (by omega) (by omega)]
 exact k1
theorem ask2 {of : Int} (h1 : 1 ≤ bay ∧ bay ≤ 2) (h2 : 0 ≤ of ∧ of ≤ 1) (hk : 2 * (bay - 1) + of = 2) (hj : 1 ≤ j ∧ j ≤ 1099511627776) (hno : zbs mp (.n j) = none) (hs : c.run.Pairwise (· < ·)) (hl : c.run.length ≤ 8) (hw : c.wait.length ≤ 8)
 (hroom : (c.run.length : Int) < c.n ∨ (c.n ≠ 0 ∧ c.wait.length < 8))
 (k1 : (c.run.length : Int) < c.n → Q (.t [.u (.b true), .i 0]) [.c [.w 1, .m 2], .cw 270 3 4 [.i a.n, .w 3, .w 4, .i b.n, .w 5, .w 6, .i c.n, .w 11, .w 8, .i d.n, .w 9, .w 10], .p .n 1 false (za3 mp (.n j) [.n 2]), .w iT 1 (a.run.map eI), .w iT 1 (a.wait.map eI), .w iT 1 (b.run.map eI), .w iT 1 (b.wait.map eI), .x, .w iT 1 (c.wait.map eI), .w iT 1 (d.run.map eI), .w iT 1 (d.wait.map eI), .w iT 1 ((zi2 j c.run).map eI)])
 (k2 : ¬ (c.run.length : Int) < c.n → Q (.t [.u (.b false), .i 0]) [.c [.w 1, .m 2], .cw 270 3 4 [.i a.n, .w 3, .w 4, .i b.n, .w 5, .w 6, .i c.n, .w 7, .w 11, .i d.n, .w 9, .w 10], .p .n 1 false (za3 mp (.n j) [.n 2]), .w iT 1 (a.run.map eI), .w iT 1 (a.wait.map eI), .w iT 1 (b.run.map eI), .w iT 1 (b.wait.map eI), .w iT 1 (c.run.map eI), .x, .w iT 1 (d.run.map eI), .w iT 1 (d.wait.map eI), .w iT 1 (c.wait.map eI ++ [eI j])]) :
 PRun Tryz.prog 199 (MBy mp a b c d) [.r 0 0, .i bay, .i of, .i j] Q := by
 refine S199k2 (cIf (fun h => by omega) fun _ => ⟨by decide, ?_⟩)
 rw [zc3]
 refine cIf (fun h => by omega) fun _ => cIf (fun h => by omega) fun _ => cIf (fun h => by omega) fun _ => ⟨by rw [zn0 h1 h2]; exact hk, ?_⟩
 refine cIf (fun _ => ?_) fun h => by omega
 rw [decide_eq_true hj.2]
 simp only [z0p, cond_false]
 rw [hno]
 refine ⟨by decide, by decide, ?_⟩
 simp only [zzc]
 refine cIf (fun h => ?_) fun h => ?_
 · rw [decide_eq_true h]
   refine zej hs (by omega) fun q => ?_
   rw [zc7]
   refine zou (ze9 _ _) (by omega) ?_
   rw [zc5]
   exact k1 h
 · rw [decide_eq_false h]
   refine cEq (fun e => by omega) fun _ => cIf (fun e => by omega) fun _ => ⟨?_, ?_⟩
   · unfold zak; simp; omega
   · exact k2 h
theorem leave2 (hm : zbs mp (.n j) = some [.n 2]) (hs : c.run.Pairwise (· < ·)) (hl : c.run.length ≤ 8) (hw : c.wait.length ≤ 8)
 (k1 : c.run.contains j = false ∨ c.wait.filter (· != j) = [] → Q (.t [.i 0, .i 0]) [.c [.w 1, .m 2], .cw 270 3 4 [.i a.n, .w 3, .w 4, .i b.n, .w 5, .w 6, .i c.n, .w 11, .w 12, .i d.n, .w 9, .w 10], .p .n 1 false (zdm mp (.n j)), .w iT 1 (a.run.map eI), .w iT 1 (a.wait.map eI), .w iT 1 (b.run.map eI), .w iT 1 (b.wait.map eI), .x, .x, .w iT 1 (d.run.map eI), .w iT 1 (d.wait.map eI), .w iT 1 ((c.run.filter (· != j)).map eI), .w iT 1 ((c.wait.filter (· != j)).map eI)])
 (k2 : ∀ w ws, c.run.contains j = true → c.wait.filter (· != j) = w :: ws → Q (.t [.i w, .i 0]) [.c [.w 1, .m 2], .cw 270 3 4 [.i a.n, .w 3, .w 4, .i b.n, .w 5, .w 6, .i c.n, .w 11, .w 12, .i d.n, .w 9, .w 10], .p .n 1 false (zdm mp (.n j)), .w iT 1 (a.run.map eI), .w iT 1 (a.wait.map eI), .w iT 1 (b.run.map eI), .w iT 1 (b.wait.map eI), .x, .x, .w iT 1 (d.run.map eI), .w iT 1 (d.wait.map eI), .w iT 1 ((zi2 w (c.run.filter (· != j))).map eI), .w iT 1 (ws.map eI)]) :
 PRun Tryz.prog 211 (MBy mp a b c d) [.r 0 0, .i j] Q := by
 refine S211k2 ?_
 rw [hm]
 simp only [mO, ug0, zbo]
 refine ⟨by first | trivial | rfl, by decide, by decide, zm6 (by omega) ?_⟩
 rw [zme]
 refine zo8 (by omega) ?_
 rw [zc6]
 refine zo8 (by omega) ?_
 rw [zc6]
 have hf1 : (c.run.filter (· != j)).length ≤ c.run.length := z0n _ _
 have hf2 : (c.wait.filter (· != j)).length ≤ c.wait.length := z0n _ _
 cases hc : c.run.contains j with
 | false => exact k1 (.inl hc)
 | true =>
   rw [z0p, cond_false]
   cases hx : c.wait.filter (· != j) with
   | nil =>
     have := k1 (.inr hx)
     rw [hx] at this
     exact this
   | cons w ws =>
     rw [hx] at hf2
     simp only [zzr] at hf2
     simp only [zzc, zzr]
     refine cEq (fun e => by omega) fun _ => ⟨by decide, by omega, ?_⟩
     rw [zah (r := eI w) (by decide) rfl]
     simp only [eI, ug0, ugs, zbo]
     refine ⟨by decide, by omega, zzw _, ?_⟩
     have e : List.drop 1 (List.take (ws.length + 1) (zzq eI (w :: ws))) = ws.map eI := by
      rw [z06 (by simp)]; rfl
     rw [e]
     refine ze0 (by omega) ?_
     rw [zmb]
     refine zej (zgv hs) (by omega) fun q => ?_
     rw [zc7]
     refine zou (ze9 _ _) (by omega) ?_
     rw [zc5]
     exact k2 w ws hc hx
theorem free2 {of : Int} (h1 : 1 ≤ bay ∧ bay ≤ 2) (h2 : 0 ≤ of ∧ of ≤ 1) (hk : 2 * (bay - 1) + of = 2) (hl : c.run.length ≤ 8) (hn : 0 ≤ c.n ∧ c.n ≤ 8)
 (k1 : Q (.t [.i (c.n - (c.run.length : Int)), .i 0]) (MBy mp a b c d)) : PRun Tryz.prog 213 (MBy mp a b c d) [.r 0 0, .i bay, .i of] Q := by
 refine S213k2 (cIf (fun h => by omega) fun _ => ⟨by decide, ?_⟩)
 rw [zc3]
 refine cIf (fun h => by omega) fun _ => cIf (fun h => by omega) fun _ => cIf (fun h => by omega) fun _ => ⟨by rw [zn0 h1 h2]; exact hk, ?_⟩
 refine ⟨by decide, by decide, by decide, by decide, ?_⟩
 rw [zzc, w64 (by omega) (by omega)]
 exact k1
theorem ask3 {of : Int} (h1 : 1 ≤ bay ∧ bay ≤ 2) (h2 : 0 ≤ of ∧ of ≤ 1) (hk : 2 * (bay - 1) + of = 3) (hj : 1 ≤ j ∧ j ≤ 1099511627776) (hno : zbs mp (.n j) = none) (hs : d.run.Pairwise (· < ·)) (hl : d.run.length ≤ 8) (hw : d.wait.length ≤ 8)
 (hroom : (d.run.length : Int) < d.n ∨ (d.n ≠ 0 ∧ d.wait.length < 8))
 (k1 : (d.run.length : Int) < d.n → Q (.t [.u (.b true), .i 0]) [.c [.w 1, .m 2], .cw 270 3 4 [.i a.n, .w 3, .w 4, .i b.n, .w 5, .w 6, .i c.n, .w 7, .w 8, .i d.n, .w 11, .w 10], .p .n 1 false (za3 mp (.n j) [.n 3]), .w iT 1 (a.run.map eI), .w iT 1 (a.wait.map eI), .w iT 1 (b.run.map eI), .w iT 1 (b.wait.map eI), .w iT 1 (c.run.map eI), .w iT 1 (c.wait.map eI), .x, .w iT 1 (d.wait.map eI), .w iT 1 ((zi2 j d.run).map eI)])
 (k2 : ¬ (d.run.length : Int) < d.n → Q (.t [.u (.b false), .i 0]) [.c [.w 1, .m 2], .cw 270 3 4 [.i a.n, .w 3, .w 4, .i b.n, .w 5, .w 6, .i c.n, .w 7, .w 8, .i d.n, .w 9, .w 11], .p .n 1 false (za3 mp (.n j) [.n 3]), .w iT 1 (a.run.map eI), .w iT 1 (a.wait.map eI), .w iT 1 (b.run.map eI), .w iT 1 (b.wait.map eI), .w iT 1 (c.run.map eI), .w iT 1 (c.wait.map eI), .w iT 1 (d.run.map eI), .x, .w iT 1 (d.wait.map eI ++ [eI j])]) :
 PRun Tryz.prog 199 (MBy mp a b c d) [.r 0 0, .i bay, .i of, .i j] Q := by
 refine S199k3 (cIf (fun h => by omega) fun _ => ⟨by decide, ?_⟩)
 rw [zc3]
 refine cIf (fun h => by omega) fun _ => cIf (fun h => by omega) fun _ => cIf (fun h => by omega) fun _ => ⟨by rw [zn0 h1 h2]; exact hk, ?_⟩
 refine cIf (fun _ => ?_) fun h => by omega
 rw [decide_eq_true hj.2]
 simp only [z0p, cond_false]
 rw [hno]
 refine ⟨by decide, by decide, ?_⟩
 simp only [zzc]
 refine cIf (fun h => ?_) fun h => ?_
 · rw [decide_eq_true h]
   refine zej hs (by omega) fun q => ?_
   rw [zc7]
   refine zou (ze9 _ _) (by omega) ?_
   rw [zc5]
   exact k1 h
 · rw [decide_eq_false h]
   refine cEq (fun e => by omega) fun _ => cIf (fun e => by omega) fun _ => ⟨?_, ?_⟩
   · unfold zak; simp; omega
   · exact k2 h
theorem leave3 (hm : zbs mp (.n j) = some [.n 3]) (hs : d.run.Pairwise (· < ·)) (hl : d.run.length ≤ 8) (hw : d.wait.length ≤ 8)
 (k1 : d.run.contains j = false ∨ d.wait.filter (· != j) = [] → Q (.t [.i 0, .i 0]) [.c [.w 1, .m 2], .cw 270 3 4 [.i a.n, .w 3, .w 4, .i b.n, .w 5, .w 6, .i c.n, .w 7, .w 8, .i d.n, .w 11, .w 12], .p .n 1 false (zdm mp (.n j)), .w iT 1 (a.run.map eI), .w iT 1 (a.wait.map eI), .w iT 1 (b.run.map eI), .w iT 1 (b.wait.map eI), .w iT 1 (c.run.map eI), .w iT 1 (c.wait.map eI), .x, .x, .w iT 1 ((d.run.filter (· != j)).map eI), .w iT 1 ((d.wait.filter (· != j)).map eI)])
 (k2 : ∀ w ws, d.run.contains j = true → d.wait.filter (· != j) = w :: ws → Q (.t [.i w, .i 0]) [.c [.w 1, .m 2], .cw 270 3 4 [.i a.n, .w 3, .w 4, .i b.n, .w 5, .w 6, .i c.n, .w 7, .w 8, .i d.n, .w 11, .w 12], .p .n 1 false (zdm mp (.n j)), .w iT 1 (a.run.map eI), .w iT 1 (a.wait.map eI), .w iT 1 (b.run.map eI), .w iT 1 (b.wait.map eI), .w iT 1 (c.run.map eI), .w iT 1 (c.wait.map eI), .x, .x, .w iT 1 ((zi2 w (d.run.filter (· != j))).map eI), .w iT 1 (ws.map eI)]) :
 PRun Tryz.prog 211 (MBy mp a b c d) [.r 0 0, .i j] Q := by
 refine S211k3 ?_
 rw [hm]
 simp only [mO, ug0, zbo]
 refine ⟨by first | trivial | rfl, by decide, by decide, zm6 (by omega) ?_⟩
 rw [zme]
 refine zo8 (by omega) ?_
 rw [zc6]
 refine zo8 (by omega) ?_
 rw [zc6]
 have hf1 : (d.run.filter (· != j)).length ≤ d.run.length := z0n _ _
 have hf2 : (d.wait.filter (· != j)).length ≤ d.wait.length := z0n _ _
 cases hc : d.run.contains j with
 | false => exact k1 (.inl hc)
 | true =>
   rw [z0p, cond_false]
   cases hx : d.wait.filter (· != j) with
   | nil =>
     have := k1 (.inr hx)
     rw [hx] at this
     exact this
   | cons w ws =>
     rw [hx] at hf2
     simp only [zzr] at hf2
     simp only [zzc, zzr]
     refine cEq (fun e => by omega) fun _ => ⟨by decide, by omega, ?_⟩
     rw [zah (r := eI w) (by decide) rfl]
     simp only [eI, ug0, ugs, zbo]
     refine ⟨by decide, by omega, zzw _, ?_⟩
     have e : List.drop 1 (List.take (ws.length + 1) (zzq eI (w :: ws))) = ws.map eI := by
      rw [z06 (by simp)]; rfl
     rw [e]
     refine ze0 (by omega) ?_
     rw [zmb]
     refine zej (zgv hs) (by omega) fun q => ?_
     rw [zc7]
     refine zou (ze9 _ _) (by omega) ?_
     rw [zc5]
     exact k2 w ws hc hx
theorem free3 {of : Int} (h1 : 1 ≤ bay ∧ bay ≤ 2) (h2 : 0 ≤ of ∧ of ≤ 1) (hk : 2 * (bay - 1) + of = 3) (hl : d.run.length ≤ 8) (hn : 0 ≤ d.n ∧ d.n ≤ 8)
 (k1 : Q (.t [.i (d.n - (d.run.length : Int)), .i 0]) (MBy mp a b c d)) : PRun Tryz.prog 213 (MBy mp a b c d) [.r 0 0, .i bay, .i of] Q := by
 refine S213k3 (cIf (fun h => by omega) fun _ => ⟨by decide, ?_⟩)
 rw [zc3]
 refine cIf (fun h => by omega) fun _ => cIf (fun h => by omega) fun _ => cIf (fun h => by omega) fun _ => ⟨by rw [zn0 h1 h2]; exact hk, ?_⟩
 refine ⟨by decide, by decide, by decide, by decide, ?_⟩
 rw [zzc, w64 (by omega) (by omega)]
 exact k1
abbrev lnR (s : Sd) : List U := [.l 1 (s.run.map eI), .l 1 (s.wait.map eI)]
theorem lines_S0 (h : ∀ s ∈ [a, b, c, d], s.run.length ≤ 8 ∧ s.wait.length ≤ 8) (k : Q (.l 2 ([a, b, c, d].map lnR)) (MBy mp a b c d)) : PRun Tryz.prog 73 (MBy mp a b c d) [.r 0 0] Q := by
 have ha := h a (by simp); have hb := h b (by simp); have hc := h c (by simp); have hd := h d (by simp)
 have ap : ∀ (l m : List (List U)), l.length ≤ 3 → m.length = 1 → zak l m := fun l m h1 h2 => by unfold zak; omega
 refine S73 ⟨by decide, by decide, ?_⟩
 refine zda (by omega) ?_
 rw [zd9]
 refine zda (by omega) ?_
 rw [zd9]
 refine ⟨ap _ _ (by simp) rfl, ?_⟩
 refine ⟨by decide, by decide, ?_⟩
 refine zda (by omega) ?_
 rw [zd9]
 refine zda (by omega) ?_
 rw [zd9]
 refine ⟨ap _ _ (by simp) rfl, ?_⟩
 refine ⟨by decide, by decide, ?_⟩
 refine zda (by omega) ?_
 rw [zd9]
 refine zda (by omega) ?_
 rw [zd9]
 refine ⟨ap _ _ (by simp) rfl, ?_⟩
 refine ⟨by decide, by decide, ?_⟩
 refine zda (by omega) ?_
 rw [zd9]
 refine zda (by omega) ?_
 rw [zd9]
 refine ⟨ap _ _ (by simp) rfl, ?_⟩
 exact k
theorem leaveNo (hm : zbs mp (.n j) = none) (k : Q (.t [.i 0, .i 3]) (MBy mp a b c d)) : PRun Tryz.prog 211 (MBy mp a b c d) [.r 0 0, .i j] Q := by
 refine S211no ?_
 rw [hm]
 exact k
end
end
variable {s : Sd}
section
set_option maxRecDepth 1000000
variable {Q : V → Mem → Prop}
theorem PRun.packK (hr : zag args = [])
 (hh : ∀ m, S m → PRun P g m (.r 0 0 :: args) fun x m' => zae x = [] ∧ ∃ (ix : List Nat) (S' : Mem → Prop), (0 :: ix).Nodup ∧ zfh m'.length (0 :: ix) = true ∧ zdz (0 :: ix) ((0 :: ix).flatMap fun b => zbb (mg m' b)) = true ∧ S' (zly m' (0 :: ix)) ∧ Q x [.o (Ob.of S')]) :
 PRun P g [.o (Ob.of S)] (.r 0 0 :: args) Q := by
 intro D ρ chs C h vs M F
 obtain ⟨L, rfl⟩ : ∃ L, ρ = [L] := by
  have := M.len
  match ρ, this with
  | [L], _ => exact ⟨L, rfl⟩
 obtain ⟨ch, rfl⟩ : ∃ c, chs = [c] := by
  have := M.lch
  match chs, this with
  | [c], _ => exact ⟨c, rfl⟩
 have he := M.ent 0 L _ ch rfl rfl rfl
 cases he with
 | o hf =>
   obtain ⟨m, ρ1, chs1, hS, l1, l2, ⟨L1, hL1, hb⟩, rfl, hent⟩ := hf
   have M1 : SAt D ρ1 m chs1 C h := ⟨l1, l2, hent, M.st.perm (by simp)⟩
   cases F with
   | cons h1 h2 =>
     obtain ⟨L', hL', rfl⟩ := h1.r_inv
     have : L' = L := by simpa using hL'.symm
     subst this
     have hp := Rp.r (D := D) (o := 0) hL1
     rw [hb] at hp
     have F1 := RpL.cons hp (zer (ρ' := ρ1) h2 hr)
     refine (hh m hS D ρ1 chs1 C h _ M1 F1).mono ?_
     rintro v h' ⟨D', s, chs', x, m', le, M', hv, hx, ix, S', hnd, hbl, hcl, hS', hQ⟩
     have hL2 : (ρ1 ++ s)[0]? = some L1 := by rw [zzi (by have := (zza.1 hL1).1; exact this)]; exact hL1
     obtain ⟨c', cs, -, -, Ms⟩ := M'.sub hnd (zb0 hbl) fun b hb c hc => za1 hcl c (z10.2 ⟨b, hb, hc⟩)
     have S2 : St D' (cs ++ C) h' := by
      have := Ms.st
      exact (this.perm (C' := c' ++ (cs ++ C)) (by simp only [zz4]; exact z0d _ _ _)).drops
     refine ⟨D', [], [cs.flatten], x, [.o (Ob.of S')], le, ⟨rfl, rfl, ?_, S2.perm (by simp)⟩, zv2 hv hx, hQ⟩
     rintro i K ab c q1 q2 q3
     cases i with
     | zero =>
       simp at q1 q2 q3
       subst q1 q2 q3
       exact .o ⟨_, _, cs, hS', Ms.len, Ms.lch, ⟨L1, by simp only [zzv, z28]; rw [hL2]; rfl, hb⟩, rfl, Ms.ent⟩
     | succ i => simp at q2
structure BIv (mp : List (MK × List U)) (l : List Sd) : Prop where
 pos : ∀ (k : Nat) (s : Sd) (j : Int), l[k]? = some s → (j ∈ s.run ∨ j ∈ s.wait) → zbs mp (.n j) = some [.n (k : Int)]
 only : ∀ (j : Int) (r : List U), zbs mp (.n j) = some r → ∃ (k : Nat) (s : Sd), l[k]? = some s ∧ (j ∈ s.run ∨ j ∈ s.wait)
 nd : (mp.map (·.1)).Nodup
 srt : ∀ s ∈ l, s.run.Pairwise (· < ·)
 len : ∀ s ∈ l, (s.run.length : Int) ≤ s.n ∧ s.n ≤ 8 ∧ s.wait.length ≤ 8
theorem BIv.none {l : List Sd} (h : BIv mp l) (hn : ∀ s ∈ l, j ∉ s.run ∧ j ∉ s.wait) : zbs mp (.n j) = .none := by
 cases hg : zbs mp (.n j) with
 | none => rfl
 | some r =>
   obtain ⟨k, s, h1, h2⟩ := h.only j r hg
   have := hn s (zzf h1)
   rcases h2 with h2 | h2
   · exact absurd h2 this.1
   · exact absurd h2 this.2
theorem zse {x : Int} : x ∈ zi2 j l ↔ x = j ∨ x ∈ l := by
 unfold zi2
 rw [zzh, zze]
 have : x ∈ l ↔ x ∈ l.take (lbI j l) ∨ x ∈ l.drop (lbI j l) := by
  rw [← zzh, z0t]
 rw [this]
 constructor
 · rintro (h | h | h)
   · exact .inr (.inl h)
   · exact .inl h
   · exact .inr (.inr h)
 · rintro (h | h | h)
   · exact .inr (.inl h)
   · exact .inl h
   · exact .inr (.inr h)
theorem zmx : (zi2 j l).length = l.length + 1 := zl6 (ze9 _ _)
theorem lbI_lt {t : Int} : ∀ {l : List Int} {x : Int}, x ∈ l.take (lbI t l) → x < t
 | [], x, h => by simp at h
 | y :: l, x, h => by
   simp only [lbI] at h
   split at h
   · rename_i hy
     rw [List.take_succ_cons] at h
     rcases zze.1 h with rfl | h
     · exact hy
     · exact lbI_lt h
   · simp at h
theorem lbI_ge {t : Int} : ∀ {l : List Int} {x : Int}, l.Pairwise (· < ·) → x ∈ l.drop (lbI t l) → t ≤ x
 | [], x, _, h => by simp at h
 | y :: l, x, hs, h => by
   simp only [lbI] at h
   have h2 := z0h.1 hs
   split at h
   · rw [List.drop_succ_cons] at h
     exact lbI_ge h2.2 h
   · rename_i hy
     rw [z1k] at h
     rcases zze.1 h with rfl | h
     · omega
     · have := h2.1 x h; omega
theorem zsp (hs : l.Pairwise (· < ·)) (hj : j ∉ l) : (zi2 j l).Pairwise (· < ·) := by
 have e := z0t (lbI j l) l
 have hs2 : (l.take (lbI j l) ++ l.drop (lbI j l)).Pairwise (· < ·) := by rw [e]; exact hs
 obtain ⟨p1, p2, p3⟩ := z3x.1 hs2
 unfold zi2
 refine z3x.2 ⟨p1, z0h.2 ⟨fun x hx => ?_, p2⟩, fun x hx y hy => ?_⟩
 · have h1 := lbI_ge hs hx
   have h2 : x ≠ j := fun e => hj (e ▸ z14 hx)
   omega
 · rcases zze.1 hy with rfl | hy
   · exact lbI_lt hx
   · exact p3 x hx y hy
theorem zbt {l : List Sd} {s' x : Sd} (hs : l[k]? = some s) (h : (l.set k s')[i]? = some x) : (i = k ∧ x = s') ∨ (i ≠ k ∧ l[i]? = some x) := by
 have hlt := (zza.1 hs).1
 rw [List.getElem?_set] at h
 split at h
 · rename_i e
   subst e
   cases h
   exact .inl ⟨rfl, rfl⟩
 · rename_i e
   exact .inr ⟨fun h => e h.symm, h⟩
theorem zee {l : List Sd} {s' x : Sd} (hs : l[k]? = some s) (h : x ∈ l.set k s') : x = s' ∨ x ∈ l := by
 obtain ⟨i, hi⟩ := z0e.1 h
 rcases zbt hs hi with ⟨-, e⟩ | ⟨-, e⟩
 · exact .inl e
 · exact .inr (zzf e)
theorem BIv.more {l : List Sd} (h : BIv mp l) {s' : Sd} (hs : l[k]? = some s) (hno : ∀ s ∈ l, j ∉ s.run ∧ j ∉ s.wait)
 (hm : ∀ x, (x ∈ s'.run ∨ x ∈ s'.wait) ↔ x = j ∨ (x ∈ s.run ∨ x ∈ s.wait)) (hsr : s'.run.Pairwise (· < ·)) (hln : (s'.run.length : Int) ≤ s'.n ∧ s'.n ≤ 8 ∧ s'.wait.length ≤ 8) : BIv (za3 mp (.n j) [.n (k : Int)]) (l.set k s') where
 pos i t x ht hx := by
  rw [za8]
  rcases zbt hs ht with ⟨rfl, rfl⟩ | ⟨hne, ht⟩
  · rcases (hm x).1 hx with rfl | hx
    · rw [if_pos rfl]
    · have : (MK.n j) ≠ .n x := fun e => by
       cases e
       have := hno s (zzf hs)
       rcases hx with hx | hx
       · exact this.1 hx
       · exact this.2 hx
      rw [if_neg this]
      exact h.pos _ s x hs hx
  · have : (MK.n j) ≠ .n x := fun e => by
     cases e
     have := hno t (zzf ht)
     rcases hx with hx | hx
     · exact this.1 hx
     · exact this.2 hx
    rw [if_neg this]
    exact h.pos i t x ht hx
 only x r hr := by
  have hlt := (zza.1 hs).1
  have hk : (l.set k s')[k]? = some s' := by rw [z0f hlt]
  rw [za8] at hr
  split at hr
  · rename_i e
    cases e
    exact ⟨k, s', hk, (hm j).2 (.inl rfl)⟩
  · obtain ⟨i, t, h1, h2⟩ := h.only x r hr
    by_cases e : i = k
    · subst e
      rw [hs] at h1
      cases h1
      exact ⟨i, s', hk, (hm x).2 (.inr h2)⟩
    · exact ⟨i, t, by rw [zz0 (Ne.symm e)]; exact h1, h2⟩
 nd := zig _ _ h.nd
 srt t ht := by
  rcases zee hs ht with rfl | ht
  · exact hsr
  · exact h.srt t ht
 len t ht := by
  rcases zee hs ht with rfl | ht
  · exact hln
  · exact h.len t ht
theorem BIv.less {l : List Sd} (h : BIv mp l) {s' : Sd} (hs : l[k]? = some s) (hj : j ∈ s.run ∨ j ∈ s.wait)
 (hm : ∀ x, (x ∈ s'.run ∨ x ∈ s'.wait) ↔ x ≠ j ∧ (x ∈ s.run ∨ x ∈ s.wait)) (hsr : s'.run.Pairwise (· < ·)) (hln : (s'.run.length : Int) ≤ s'.n ∧ s'.n ≤ 8 ∧ s'.wait.length ≤ 8) : BIv (zdm mp (.n j)) (l.set k s') where
 pos i t x ht hx := by
  rw [zds _ _ h.nd]
  rcases zbt hs ht with ⟨rfl, rfl⟩ | ⟨hne, ht⟩
  · obtain ⟨h1, h2⟩ := (hm x).1 hx
    rw [if_neg fun e => by cases e; exact h1 rfl]
    exact h.pos _ s x hs h2
  · have : x ≠ j := fun e => by
     subst e
     have a1 := h.pos i t x ht hx
     have a2 := h.pos k s x hs hj
     rw [a1] at a2
     simp at a2
     exact hne (by omega)
    rw [if_neg fun e => by cases e; exact this rfl]
    exact h.pos i t x ht hx
 only x r hr := by
  have hlt := (zza.1 hs).1
  have hk : (l.set k s')[k]? = some s' := by rw [z0f hlt]
  rw [zds _ _ h.nd] at hr
  split at hr
  · cases hr
  · rename_i e
    obtain ⟨i, t, h1, h2⟩ := h.only x r hr
    by_cases e2 : i = k
    · subst e2
      rw [hs] at h1
      cases h1
      exact ⟨i, s', hk, (hm x).2 ⟨fun e3 => e (by rw [e3]), h2⟩⟩
    · exact ⟨i, t, by rw [zz0 (Ne.symm e2)]; exact h1, h2⟩
 nd := zl4 _ h.nd
 srt t ht := by
  rcases zee hs ht with rfl | ht
  · exact hsr
  · exact h.srt t ht
 len t ht := by
  rcases zee hs ht with rfl | ht
  · exact hln
  · exact h.len t ht
def zta (l : List Sd) : Mem → Prop := fun M => ∃ (mp : List (MK × List U)) (a b c d : Sd), l = [a, b, c, d] ∧ BIv mp l ∧ M = MBy mp a b c d
abbrev bO (l : List Sd) : AB := .o (Ob.of (zta l))
def zq4 (s : Sd) (j : Int) : Sd := if (s.run.length : Int) < s.n then { s with run := zi2 j s.run } else { s with wait := s.wait ++ [j] }
def lvS (s : Sd) (j : Int) : Sd × Int :=
 match s.run.contains j, s.wait.filter (· != j) with
 | true, w :: ws => (⟨s.n, zi2 w (s.run.filter (· != j)), ws⟩, w)
 | _, ws => (⟨s.n, s.run.filter (· != j), ws⟩, 0)
theorem flt_mem {x : Int} : x ∈ l.filter (· != j) ↔ x ≠ j ∧ x ∈ l := by
 rw [z0r]
 simp only [bne_iff_ne, ne_eq]
 exact And.comm
theorem ask_S {l : List Sd} {of : Int} (h1 : 1 ≤ bay ∧ bay ≤ 2) (h2 : 0 ≤ of ∧ of ≤ 1) (hk : 2 * (bay - 1) + of = (k : Int)) (hs : l[k]? = some s) (hj : 1 ≤ j ∧ j ≤ 1099511627776) (hno : ∀ s ∈ l, j ∉ s.run ∧ j ∉ s.wait)
 (hroom : (s.run.length : Int) < s.n ∨ (s.n ≠ 0 ∧ s.wait.length < 8)) (K : Q (.t [.u (.b (decide ((s.run.length : Int) < s.n))), .i 0]) [bO (l.set k (zq4 s j))]) : PRun Tryz.prog 199 [bO l] [.r 0 0, .i bay, .i of, .i j] Q := by
 refine PRun.packK (args := [.i bay, .i of, .i j]) rfl ?_
 rintro M ⟨mp, a, b, c, d, rfl, hI, rfl⟩
 have hn := hI.none hno
 have hls := hI.len s (zzf hs)
 have hsr := hI.srt s (zzf hs)
 have hns := hno s (zzf hs)
 have r1 : (s.run.length : Int) < s.n → zq4 s j = { s with run := zi2 j s.run } := fun h => by unfold zq4; rw [if_pos h]
 have r2 : ¬ (s.run.length : Int) < s.n → zq4 s j = { s with wait := s.wait ++ [j] } := fun h => by unfold zq4; rw [if_neg h]
 have hB : BIv (za3 mp (.n j) [.n (k : Int)]) ([a, b, c, d].set k (zq4 s j)) := by
  refine hI.more hs hno (fun x => ?_) ?_ ?_
  · by_cases h : (s.run.length : Int) < s.n
    · rw [r1 h]; simp only [zse, or_assoc]
    · rw [r2 h]; simp only [zzh, z03]
      constructor
      · rintro (h | h | h)
        · exact .inr (.inl h)
        · exact .inr (.inr h)
        · exact .inl h
      · rintro (h | h | h)
        · exact .inr (.inr h)
        · exact .inl h
        · exact .inr (.inl h)
  · by_cases h : (s.run.length : Int) < s.n
    · rw [r1 h]; exact zsp hsr hns.1
    · rw [r2 h]; exact hsr
  · by_cases h : (s.run.length : Int) < s.n
    · rw [r1 h]; simp only [zmx]; omega
    · rw [r2 h]; simp only [zzx, zzr, z1a]; omega
 match k, hk, hs, hB, K with
 | 0, hk, hs, hB, K =>
   have : a = s := by simpa using hs
   subst this
   refine ask0 h1 h2 hk hj hn hsr (by omega) (by omega) hroom (fun h => ?_) fun h => ?_
   · rw [r1 h] at hB K
     rw [decide_eq_true h] at K
     exact ⟨rfl, [1, 2, 11, 4, 5, 6, 7, 8, 9, 10], _, by decide, rfl, rfl, ⟨_, _, b, c, d, rfl, hB, rfl⟩, K⟩
   · rw [r2 h] at hB K
     rw [decide_eq_false h] at K
     refine ⟨rfl, [1, 2, 3, 11, 5, 6, 7, 8, 9, 10], _, by decide, rfl, rfl, ⟨_, _, b, c, d, rfl, hB, ?_⟩, K⟩
     simp only [MBy, zz2, zzv, z1m]
     rfl
 | 1, hk, hs, hB, K =>
   have : b = s := by simpa using hs
   subst this
   refine ask1 h1 h2 hk hj hn hsr (by omega) (by omega) hroom (fun h => ?_) fun h => ?_
   · rw [r1 h] at hB K
     rw [decide_eq_true h] at K
     exact ⟨rfl, [1, 2, 3, 4, 11, 6, 7, 8, 9, 10], _, by decide, rfl, rfl, ⟨_, a, _, c, d, rfl, hB, rfl⟩, K⟩
   · rw [r2 h] at hB K
     rw [decide_eq_false h] at K
     refine ⟨rfl, [1, 2, 3, 4, 5, 11, 7, 8, 9, 10], _, by decide, rfl, rfl, ⟨_, a, _, c, d, rfl, hB, ?_⟩, K⟩
     simp only [MBy, zz2, zzv, z1m]
     rfl
 | 2, hk, hs, hB, K =>
   have : c = s := by simpa using hs
   subst this
   refine ask2 h1 h2 hk hj hn hsr (by omega) (by omega) hroom (fun h => ?_) fun h => ?_
   · rw [r1 h] at hB K
     rw [decide_eq_true h] at K
     exact ⟨rfl, [1, 2, 3, 4, 5, 6, 11, 8, 9, 10], _, by decide, rfl, rfl, ⟨_, a, b, _, d, rfl, hB, rfl⟩, K⟩
   · rw [r2 h] at hB K
     rw [decide_eq_false h] at K
     refine ⟨rfl, [1, 2, 3, 4, 5, 6, 7, 11, 9, 10], _, by decide, rfl, rfl, ⟨_, a, b, _, d, rfl, hB, ?_⟩, K⟩
     simp only [MBy, zz2, zzv, z1m]
     rfl
 | 3, hk, hs, hB, K =>
   have : d = s := by simpa using hs
   subst this
   refine ask3 h1 h2 hk hj hn hsr (by omega) (by omega) hroom (fun h => ?_) fun h => ?_
   · rw [r1 h] at hB K
     rw [decide_eq_true h] at K
     exact ⟨rfl, [1, 2, 3, 4, 5, 6, 7, 8, 11, 10], _, by decide, rfl, rfl, ⟨_, a, b, c, _, rfl, hB, rfl⟩, K⟩
   · rw [r2 h] at hB K
     rw [decide_eq_false h] at K
     refine ⟨rfl, [1, 2, 3, 4, 5, 6, 7, 8, 9, 11], _, by decide, rfl, rfl, ⟨_, a, b, c, _, rfl, hB, ?_⟩, K⟩
     simp only [MBy, zz2, zzv, z1m]
     rfl
 | k + 4, hk, hs, hB, K => simp at hs
theorem leave_S {l : List Sd} (hs : l[k]? = some s) (hj : j ∈ s.run ∨ j ∈ s.wait) (hw : j ∈ s.wait → j ∉ s.run) (hd : (s.run ++ s.wait).Nodup) (K : Q (.t [.i (lvS s j).2, .i 0]) [bO (l.set k (lvS s j).1)]) :
 PRun Tryz.prog 211 [bO l] [.r 0 0, .i j] Q := by
 refine PRun.packK (args := [.i j]) rfl ?_
 rintro M ⟨mp, a, b, c, d, rfl, hI, rfl⟩
 have hm := hI.pos k s j hs hj
 have hls := hI.len s (zzf hs)
 have hsr := hI.srt s (zzf hs)
 have hf1 : (s.run.filter (· != j)).length ≤ s.run.length := z0n _ _
 have hf2 : (s.wait.filter (· != j)).length ≤ s.wait.length := z0n _ _
 have r1 : s.run.contains j = false ∨ s.wait.filter (· != j) = [] → lvS s j = (⟨s.n, s.run.filter (· != j), s.wait.filter (· != j)⟩, 0) := fun h => by
  unfold lvS
  rcases h with h | h
  · rw [h]
  · rw [h]; cases s.run.contains j <;> rfl
 have r2 : ∀ w ws, s.run.contains j = true → s.wait.filter (· != j) = w :: ws → lvS s j = (⟨s.n, zi2 w (s.run.filter (· != j)), ws⟩, w) := fun w ws h1 h2 => by
  unfold lvS
  rw [h1, h2]
 have hB : BIv (zdm mp (.n j)) ([a, b, c, d].set k (lvS s j).1) := by
  by_cases hc : s.run.contains j = true ∧ s.wait.filter (· != j) ≠ []
  · obtain ⟨w, ws, hx⟩ := List.exists_cons_of_ne_nil hc.2
    have hrun : j ∈ s.run := by simpa using hc.1
    have hww : w ∈ s.wait := (flt_mem.1 (hx ▸ zz1 : w ∈ s.wait.filter (· != j))).2
    have hwr : w ∉ s.run := fun h => (z1c.1 hd).2.2 w h w hww rfl
    have hlen : (s.run.filter (· != j)).length + 1 ≤ s.run.length := by
     have := List.length_filter_lt_length_iff_exists (l := s.run) (p := (· != j)) |>.2 ⟨j, hrun, by simp⟩
     omega
    rw [r2 w ws hc.1 hx]
    refine hI.less hs hj (fun x => ?_) ?_ ?_
    · simp only [zse, flt_mem]
      have hxw : x ∈ s.wait.filter (· != j) ↔ x = w ∨ x ∈ ws := by rw [hx, zze]
      rw [flt_mem] at hxw
      constructor
      · rintro ((h | h) | h)
        · have := hxw.2 (.inl h); exact ⟨this.1, .inr this.2⟩
        · exact ⟨h.1, .inl h.2⟩
        · have := hxw.2 (.inr h); exact ⟨this.1, .inr this.2⟩
      · rintro ⟨h1, h2 | h2⟩
        · exact .inl (.inr ⟨h1, h2⟩)
        · rcases hxw.1 ⟨h1, h2⟩ with h | h
          · exact .inl (.inl h)
          · exact .inr h
    · exact zsp (zgv hsr) fun h => hwr (flt_mem.1 h).2
    · rw [hx] at hf2
      simp only [zmx, zzr] at hf2 ⊢
      omega
  · have hor : s.run.contains j = false ∨ s.wait.filter (· != j) = [] := by
     by_cases h1 : s.run.contains j = true
     · by_cases h2 : s.wait.filter (· != j) = []
       · exact .inr h2
       · exact absurd ⟨h1, h2⟩ hc
     · exact .inl (by simpa using h1)
    rw [r1 hor]
    refine hI.less hs hj (fun x => ?_) (zgv hsr) (by simp only; omega)
    simp only [flt_mem]
    constructor
    · rintro (h | h)
      · exact ⟨h.1, .inl h.2⟩
      · exact ⟨h.1, .inr h.2⟩
    · rintro ⟨h1, h2 | h2⟩
      · exact .inl ⟨h1, h2⟩
      · exact .inr ⟨h1, h2⟩
 match k, hs, hB, K, hm with
 | 0, hs, hB, K, hm =>
   have : a = s := by simpa using hs
   subst this
   refine leave0 hm hsr (by omega) (by omega) (fun h => ?_) fun w ws h1 h2 => ?_
   · rw [r1 h] at hB K
     exact ⟨rfl, [1, 2, 11, 12, 5, 6, 7, 8, 9, 10], _, by decide, rfl, rfl, ⟨_, _, b, c, d, rfl, hB, rfl⟩, K⟩
   · rw [r2 w ws h1 h2] at hB K
     exact ⟨rfl, [1, 2, 11, 12, 5, 6, 7, 8, 9, 10], _, by decide, rfl, rfl, ⟨_, _, b, c, d, rfl, hB, rfl⟩, K⟩
 | 1, hs, hB, K, hm =>
   have : b = s := by simpa using hs
   subst this
   refine leave1 hm hsr (by omega) (by omega) (fun h => ?_) fun w ws h1 h2 => ?_
   · rw [r1 h] at hB K
     exact ⟨rfl, [1, 2, 3, 4, 11, 12, 7, 8, 9, 10], _, by decide, rfl, rfl, ⟨_, a, _, c, d, rfl, hB, rfl⟩, K⟩
   · rw [r2 w ws h1 h2] at hB K
     exact ⟨rfl, [1, 2, 3, 4, 11, 12, 7, 8, 9, 10], _, by decide, rfl, rfl, ⟨_, a, _, c, d, rfl, hB, rfl⟩, K⟩
 | 2, hs, hB, K, hm =>
   have : c = s := by simpa using hs
   subst this
   refine leave2 hm hsr (by omega) (by omega) (fun h => ?_) fun w ws h1 h2 => ?_
   · rw [r1 h] at hB K
     exact ⟨rfl, [1, 2, 3, 4, 5, 6, 11, 12, 9, 10], _, by decide, rfl, rfl, ⟨_, a, b, _, d, rfl, hB, rfl⟩, K⟩
   · rw [r2 w ws h1 h2] at hB K
     exact ⟨rfl, [1, 2, 3, 4, 5, 6, 11, 12, 9, 10], _, by decide, rfl, rfl, ⟨_, a, b, _, d, rfl, hB, rfl⟩, K⟩
 | 3, hs, hB, K, hm =>
   have : d = s := by simpa using hs
   subst this
   refine leave3 hm hsr (by omega) (by omega) (fun h => ?_) fun w ws h1 h2 => ?_
   · rw [r1 h] at hB K
     exact ⟨rfl, [1, 2, 3, 4, 5, 6, 7, 8, 11, 12], _, by decide, rfl, rfl, ⟨_, a, b, c, _, rfl, hB, rfl⟩, K⟩
   · rw [r2 w ws h1 h2] at hB K
     exact ⟨rfl, [1, 2, 3, 4, 5, 6, 7, 8, 11, 12], _, by decide, rfl, rfl, ⟨_, a, b, c, _, rfl, hB, rfl⟩, K⟩
 | k + 4, hs, hB, K, hm => simp at hs
theorem leave0_S {l : List Sd} (hn : ∀ s ∈ l, j ∉ s.run ∧ j ∉ s.wait) (K : Q (.t [.i 0, .i 3]) [bO l]) : PRun Tryz.prog 211 [bO l] [.r 0 0, .i j] Q := by
 refine PRun.packK (args := [.i j]) rfl ?_
 rintro M ⟨mp, a, b, c, d, rfl, hI, rfl⟩
 exact leaveNo (hI.none hn) ⟨rfl, [1, 2, 3, 4, 5, 6, 7, 8, 9, 10], _, by decide, rfl, rfl, ⟨_, a, b, c, d, rfl, hI, rfl⟩, K⟩
theorem free_S {l : List Sd} {of : Int} (h1 : 1 ≤ bay ∧ bay ≤ 2) (h2 : 0 ≤ of ∧ of ≤ 1) (hk : 2 * (bay - 1) + of = (k : Int)) (hs : l[k]? = some s) (K : Q (.t [.i (s.n - (s.run.length : Int)), .i 0]) [bO l]) :
 PRun Tryz.prog 213 [bO l] [.r 0 0, .i bay, .i of] Q := by
 refine PRun.packK (args := [.i bay, .i of]) rfl ?_
 rintro M ⟨mp, a, b, c, d, rfl, hI, rfl⟩
 have hls := hI.len s (zzf hs)
 match k, hk, hs with
 | 0, hk, hs =>
   have : a = s := by simpa using hs
   subst this
   exact free0 h1 h2 hk (by omega) (by omega) ⟨rfl, [1, 2, 3, 4, 5, 6, 7, 8, 9, 10], _, by decide, rfl, rfl, ⟨_, a, b, c, d, rfl, hI, rfl⟩, K⟩
 | 1, hk, hs =>
   have : b = s := by simpa using hs
   subst this
   exact free1 h1 h2 hk (by omega) (by omega) ⟨rfl, [1, 2, 3, 4, 5, 6, 7, 8, 9, 10], _, by decide, rfl, rfl, ⟨_, a, b, c, d, rfl, hI, rfl⟩, K⟩
 | 2, hk, hs =>
   have : c = s := by simpa using hs
   subst this
   exact free2 h1 h2 hk (by omega) (by omega) ⟨rfl, [1, 2, 3, 4, 5, 6, 7, 8, 9, 10], _, by decide, rfl, rfl, ⟨_, a, b, c, d, rfl, hI, rfl⟩, K⟩
 | 3, hk, hs =>
   have : d = s := by simpa using hs
   subst this
   exact free3 h1 h2 hk (by omega) (by omega) ⟨rfl, [1, 2, 3, 4, 5, 6, 7, 8, 9, 10], _, by decide, rfl, rfl, ⟨_, a, b, c, d, rfl, hI, rfl⟩, K⟩
 | k + 4, hk, hs => simp at hs
theorem zqh {l : List Sd} (K : Q (.l 2 (l.map lnR)) [bO l]) : PRun Tryz.prog 73 [bO l] [.r 0 0] Q := by
 refine PRun.packK (args := []) rfl ?_
 rintro M ⟨mp, a, b, c, d, rfl, hI, rfl⟩
 exact lines_S0 (fun s hs => by have := hI.len s hs; omega) ⟨rfl, [1, 2, 3, 4, 5, 6, 7, 8, 9, 10], _, by decide, rfl, rfl, ⟨_, a, b, c, d, rfl, hI, rfl⟩, K⟩
end
section
open Go.Shelf
variable {Q : V → Mem → Prop}
theorem call339 : zbj Tryz.prog 339 := ⟨_, Tryz.func339, by kernel_rfl, by kernel_rfl⟩
theorem mul64_S (x y : Nat) (hx : x < 18446744073709551616) (hy : y < 18446744073709551616)
 (k : Q (.t [.u (.i .u64 ((x * y / 18446744073709551616 : Nat) : Int)), .u (.i .u64 ((x * y % 18446744073709551616 : Nat) : Int))]) []) :
 PRun Tryz.prog 339 [] [.u (.i .u64 x), .u (.i .u64 y)] Q := by
 refine .keep fun D C h vs S F => ?_
 obtain ⟨v, w, rfl, h1, h2⟩ := F.two
 rw [Rd.int_iff.1 h1.u_inv, Rd.int_iff.1 h2.u_inv]
 refine ⟨call339, fun w hw => (Any.bits_Mul64 Tryz.lays264 x y hx hy w).mono ?_⟩
 rintro e w' ⟨rfl, rfl⟩
 exact ⟨_, rfl, ⟨hw ▸ .refl _ _, _, .t (.cons (.u (.int _ _)) (.cons (.u (.int _ _)) .nil)), k⟩, .refl _⟩
def upI (n by0 : Int) : Int := (n + by0 - 1) / by0
theorem zl1 {a b c : Int} (ha : 0 ≤ a ∧ a ≤ 9223372036854775807) (hb : 0 ≤ b ∧ b ≤ 9223372036854775807) (hc : 1 ≤ c ∧ c ≤ 9223372036854775807)
 (hm : a * b ≤ 9223372036854775807) (k : Q (.t [.i (upI (a * b) c), .i 0]) []) :
 PRun Tryz.prog 286 [] [.i a, .i b, .i c, .u (.b true)] Q := by
 obtain ⟨x, rfl⟩ := z1f ha.1
 obtain ⟨y, rfl⟩ := z1f hb.1
 refine S286 (cIf (fun h => by omega) fun _ => cIf (fun h => by omega) fun _ => cIf (fun h => by omega) fun _ => ?_)
 rw [znu (x := (x : Int)) (by omega) (by omega), znu (x := (y : Int)) (by omega) (by omega), znu (x := c) (by omega) (by omega)]
 rw [← Int.natCast_mul] at hm k
 refine mul64_S x y (by omega) (by omega) ?_
 rw [zwn, Nat.div_eq_of_lt (by omega), Nat.mod_eq_of_lt (by omega)]
 have h0 : (0 : Int) ≤ (x * y : Nat) := z1u _
 generalize ((x * y : Nat) : Int) = p at *
 refine cIf (fun h => by simp only [Int.natCast_zero] at h; omega) fun _ => ?_
 refine S340z (cB (fun h => by simp at h; omega) fun _ => cIf (fun h => by omega) fun _ => ⟨by omega, by omega, ?_⟩)
 rw [zwn, z2w h0, Int.tmod_eq_emod_of_nonneg h0, cond_true]
 have q0 : 0 ≤ p / c := Int.ediv_nonneg h0 (by omega)
 have q1 : p / c ≤ p := Int.ediv_le_self _ h0
 have r0 := Int.emod_nonneg p (show c ≠ 0 by omega)
 have r1 := Int.emod_lt_of_pos p (show 0 < c by omega)
 have e : upI p c = (p % c + c - 1) / c + p / c := by
  unfold upI
  rw [← z3y _ _ (show c ≠ 0 by omega), show p % c + c - 1 + c * (p / c) = p + c - 1 by have := z3z p c; omega]
 have q2 : 0 < p % c → p / c < p := fun h => Int.not_le.1 fun hh => by
  have := z3z p c
  have := Int.mul_le_mul_of_nonneg_right hc.1 q0
  omega
 rw [znu q0 (by omega)]
 refine cIf (fun hr0 => ?_) fun hr0 => ?_
 · rw [show p % c + c - 1 = (p % c - 1) + c * 1 by omega, z3y _ _ (show c ≠ 0 by omega), z30 (by omega) (by omega)] at e
   have := q2 (by omega)
   refine cIf (fun _ => ?_) fun h => by omega
   rw [znu (by omega) (by omega)]
   refine cIf (fun h => by omega) fun _ => ?_
   rw [w64 (by omega) (by omega), show p / c + 1 = upI p c by omega]
   exact k
 · rw [show p % c + c - 1 = c - 1 by omega, z30 (by omega) (by omega)] at e
   refine cIf (fun h => by omega) fun _ => ?_
   rw [w64 (by omega) (by omega), show p / c = upI p c by omega]
   exact k
structure Bl where
 makes : Int
 per : Int
 time : Int
 needs : List Stk
 copy : Int
 study : Int
 most : Int
def eB (b : Bl) : List U := [.n b.makes, .n b.per, .n b.time, .l 2 (b.needs.map eS), .n b.copy, .n b.study, .n b.most]
abbrev aB (b : Bl) : V := .a [.i b.makes, .i b.per, .i b.time, .l 2 (b.needs.map eS), .i b.copy, .i b.study, .i b.most]
structure Bl.Rg (b : Bl) : Prop where
 r : rng b.needs
 n : b.needs.length ≤ 1000
def zgx (b : Bl) (types : Int) : List Bnd := [(types, 0, 32), (b.makes, 1, types), (b.per, 1, 1048576), (b.time, 1, 1048576), (b.copy, 0, 1048576), (b.study, 0, 1048576), (b.most, 1, 1000)]
noncomputable def zd2 (b : Bl) (types : Int) : Int := if ze3 (zgx b types) = true ∧ zfg b.needs types = 0 ∧ ¬ 0 < zux b.needs b.makes then 0 else 1
structure BlueOK (b : Bl) (types : Int) : Prop where
 ty : 0 ≤ types ∧ types ≤ 32
 makes : 1 ≤ b.makes ∧ b.makes ≤ types
 per : 1 ≤ b.per ∧ b.per ≤ 1048576
 time : 1 ≤ b.time ∧ b.time ≤ 1048576
 copy : 0 ≤ b.copy ∧ b.copy ≤ 1048576
 study : 0 ≤ b.study ∧ b.study ≤ 1048576
 most : 1 ≤ b.most ∧ b.most ≤ 1000
 needs : CheckOK b.needs types
 self : ¬ 0 < zux b.needs b.makes
theorem inAll_B {b : Bl} : ze3 (zgx b types) = true ↔ (0 ≤ types ∧ types ≤ 32) ∧ (1 ≤ b.makes ∧ b.makes ≤ types) ∧ (1 ≤ b.per ∧ b.per ≤ 1048576) ∧ (1 ≤ b.time ∧ b.time ≤ 1048576) ∧ (0 ≤ b.copy ∧ b.copy ≤ 1048576) ∧ (0 ≤ b.study ∧ b.study ≤ 1048576) ∧ 1 ≤ b.most ∧ b.most ≤ 1000 := by
 simp only [ze3, zgx, z1t, z2l, z2a, zy9, zgu]
theorem blueE_ok {b : Bl} : zd2 b types = 0 ↔ BlueOK b types := by
 unfold zd2
 constructor
 · intro h
   split at h
   · rename_i hh
     obtain ⟨h1, h2, h3⟩ := hh
     obtain ⟨a1, a2, a3, a4, a5, a6, a7⟩ := inAll_B.1 h1
     exact ⟨a1, a2, a3, a4, a5, a6, a7, chkE_iff.1 h2, h3⟩
   · cases h
 · intro ⟨a1, a2, a3, a4, a5, a6, a7, h2, h3⟩
   rw [if_pos ⟨inAll_B.2 ⟨a1, a2, a3, a4, a5, a6, a7⟩, chkE_iff.2 h2, h3⟩]
section
variable {b : Bl} {types : Int}
theorem zp9 (hb : b.Rg) (k : Q (.i (zd2 b types)) []) : PRun Tryz.prog 270 [] [aB b, .i types] Q := by
 have bad : ¬ (ze3 (zgx b types) = true ∧ zfg b.needs types = 0 ∧ ¬ 0 < zux b.needs b.makes) → Q (.i 1) [] := fun h => by unfold zd2 at k; rwa [if_neg h] at k
 refine S270 (fits_S (L := zgx b types) (by simp [zgx]) ?_)
 rw [zbk]
 refine zfn (cB (fun h1 => zho (by have := hb.n; omega) ?_) fun h1 => bad (by simp [h1]))
 rw [zaw]
 refine cNe (fun h2 => bad (by simp [h2])) fun h2 => pCount_S hb.r hb.n ?_
 rw [zaw]
 refine cIf (fun h3 => bad fun h => h.2.2 h3) fun h3 => ?_
 unfold zd2 at k; rwa [if_pos ⟨h1, h2, h3⟩] at k
theorem zob {L : List Bnd} (hb : b.Rg) (hL : L.length ≤ 1000) (k : Q (.u (.b (decide (zd2 b 32 = 0) && ze3 L))) []) : PRun Tryz.prog 285 [] [aB b, .l 3 (L.map eF)] Q := by
 refine S285 (zp9 hb ?_)
 rw [zaw]
 refine cEq (fun h => fits_S (by omega) ?_) fun h => ?_
 · rw [zbk]; rwa [decide_eq_true h, Bool.true_and] at k
 · rwa [decide_eq_false h, Bool.false_and] at k
def zjy (q runs level : Int) : Int := max runs (upI (q * (runs * (100 - level))) 100)
def zhp (l : List Stk) (runs level : Int) : Bool := l.any fun s => decide (zjn < zjy s.2 runs level)
def zj0 (l : List Stk) (runs level : Int) : List Stk := l.map fun s => (s.1, zjy s.2 runs level)
noncomputable def zir (b : Bl) (level runs : Int) : List Stk × Int :=
 if (zd2 b 32 = 0 ∧ inn level 0 10 = true) ∧ inn runs 1 1000 = true then (if zhp b.needs runs level = true then ([], 5) else (zj0 b.needs runs level, 0)) else ([], 1)
noncomputable def ztk (b : Bl) (level runs : Int) : Int × Int :=
 if (zd2 b 32 = 0 ∧ inn level 0 10 = true) ∧ inn runs 1 1000 = true then (upI (b.time * runs * (100 - 2 * level)) 100, 0) else (0, 1)
abbrev vSE (r : List Stk × Int) : V := .t [.l 2 (r.1.map eS), .i r.2]
abbrev vII (r : Int × Int) : V := .t [.i r.1, .i r.2]
theorem need_bd {q : Int} (hq : 1 ≤ q ∧ q ≤ zjn) (hr : 1 ≤ runs ∧ runs ≤ 1000) (hl : 0 ≤ level ∧ level ≤ 10) :
 0 ≤ runs * (100 - level) ∧ runs * (100 - level) ≤ 100000 ∧ 0 ≤ q * (runs * (100 - level)) ∧ q * (runs * (100 - level)) ≤ 112589990684262400000 := by
 have h1 := z15 hr.2 (show 100 - level ≤ 100 by omega) (by omega) (by omega)
 have h2 := z2y (show 0 ≤ runs by omega) (show 0 ≤ 100 - level by omega)
 have h3 := z2y (show 0 ≤ q by omega) h2
 have h4 := z15 hq.2 h1 h2 (by unfold zjn; omega)
 unfold zjn at h4
 exact ⟨h2, by omega, h3, by omega⟩
theorem upI_bd {b : Int} (hn : 0 ≤ n) (hb : 1 ≤ b) : 0 ≤ upI n b ∧ upI n b ≤ n := by
 unfold upI
 refine ⟨Int.ediv_nonneg (by omega) (by omega), ?_⟩
 refine Int.lt_add_one_iff.1 (Int.ediv_lt_of_lt_mul (by omega) ?_)
 have := Int.mul_le_mul_of_nonneg_left hb hn
 rw [Int.mul_one] at this
 rw [Int.add_mul, Int.one_mul]
 omega
theorem zvf {t : Int} (ht : 1 ≤ t ∧ t ≤ 1048576) (hr : 1 ≤ runs ∧ runs ≤ 1000) (hl : 0 ≤ level ∧ level ≤ 10) :
 0 ≤ t * runs ∧ t * runs ≤ 1048576000 ∧ 0 ≤ t * runs * (100 - 2 * level) ∧ t * runs * (100 - 2 * level) ≤ 104857600000 := by
 have h1 := z2y (show 0 ≤ t by omega) (show 0 ≤ runs by omega)
 have h2 := z15 ht.2 hr.2 (by omega) (by omega)
 have h3 := z2y h1 (show 0 ≤ 100 - 2 * level by omega)
 have h4 := z15 h2 (show 100 - 2 * level ≤ 100 by omega) (by omega) (by omega)
 exact ⟨h1, by omega, h3, by omega⟩
theorem zjz {l : List Stk} (h : ∀ s ∈ l, ¬ zjn < zjy s.2 runs level) : zhp l runs level = false := by
 unfold zhp
 rw [List.any_eq_false]
 intro x hx
 simpa using h x hx
theorem pNeeds_S (hb : b.Rg) (hq : ∀ s ∈ b.needs, s.2 ≤ 1099511627776) (k : Q (vSE (zir b level runs)) []) : PRun Tryz.prog 184 [] [aB b, .i level, .i runs] Q := by
 refine S184 (zob (L := [(level, 0, 10), (runs, 1, 1000)]) hb (by simp) ?_)
 rw [zbk]
 refine zfn (cB (fun h1 => ?_) fun h1 => ?_)
 rotate_left
 · unfold zir at k; rwa [if_neg] at k; rintro ⟨⟨a1, a2⟩, a3⟩; simp [ze3, a1, a2, a3] at h1
 simp only [ze3, z1t, z2l, z2a, zy9, decide_eq_true_eq] at h1
 obtain ⟨b1, b2, b3⟩ := h1
 unfold zir at k
 rw [if_pos ⟨⟨b1, b2⟩, b3⟩] at k
 have ok := (blueE_ok.1 b1).needs
 rw [zgu] at b2 b3
 refine ⟨fun l x => AtI b.needs (fun t _ => l = (zj0 t runs level).map eS ∧ ∀ s ∈ t, ¬ zjn < zjy s.2 runs level) x, fun _ => zpl b.needs, .zero (by have := hb.n; omega) ⟨rfl, by simp⟩, ?_⟩
 rintro _ x ⟨t, _ | ⟨s, l⟩, w, rfl, hne⟩
 · rw [w.all] at hne ⊢
   rw [w.d0]
   rwa [zjz hne] at k
 · have hmem : s ∈ b.needs := by rw [w.e]; simp
   have hs := ok.el s hmem
   have hlt := congrArg zy6 w.e
   have hn := hb.n
   simp at hlt
   simp only [w.d1, w.el, eS, ug0, ugs, zbo, cond_true]
   obtain ⟨d0, d1, d2, d3⟩ := need_bd (q := s.2) ⟨hs.2.2.1, hs.2.2.2⟩ b3 b2
   have hs1 := hs.2.2.1
   have hs2 := hq _ hmem
   rw [w64 (x := 100 - level) (by omega) (by omega), w64 (x := runs * (100 - level)) (by omega) (by omega)]
   have d4 := z15 hs2 d1 d0 (by omega)
   refine zl1 (by omega) (by omega) (by omega) (by omega) ?_
   rw [zb5]
   refine cNe (fun h => absurd rfl h) fun _ => ?_
   have em : (if runs > upI (s.2 * (runs * (100 - level))) 100 then runs else upI (s.2 * (runs * (100 - level))) 100) = zjy s.2 runs level := by unfold zjy; split <;> omega
   simp only [em]
   refine cIf (fun ho => ?_) fun ho => ?_
   · have hov : zhp b.needs runs level = true := List.any_eq_true.2 ⟨s, hmem, decide_eq_true (by unfold zjn; exact ho)⟩
     rwa [if_pos hov] at k
   · refine ⟨apOk_l (by simp [zj0]; omega), w.step ⟨by simp [zj0, eS], fun u hu => ?_⟩⟩
     rcases zzh.1 hu with hu | hu
     · exact hne u hu
     · simp at hu; subst hu; exact ho
theorem pTime_S (hb : b.Rg) (k : Q (vII (ztk b level runs)) []) : PRun Tryz.prog 185 [] [aB b, .i level, .i runs] Q := by
 refine S185 (zob (L := [(level, 0, 10), (runs, 1, 1000)]) hb (by simp) ?_)
 rw [zbk]
 refine zfn (cB (fun h1 => ?_) fun h1 => ?_)
 rotate_left
 · unfold ztk at k; rwa [if_neg] at k; rintro ⟨⟨a1, a2⟩, a3⟩; simp [ze3, a1, a2, a3] at h1
 simp only [ze3, z1t, z2l, z2a, zy9, decide_eq_true_eq] at h1
 obtain ⟨b1, b2, b3⟩ := h1
 unfold ztk at k
 rw [if_pos ⟨⟨b1, b2⟩, b3⟩] at k
 have ok := (blueE_ok.1 b1).time
 rw [zgu] at b2 b3
 obtain ⟨t0, t1, t2, t3⟩ := zvf ok b3 b2
 rw [w64 (x := b.time * runs) (by omega) (by omega), w64 (x := 2 * level) (by omega) (by omega), w64 (x := 100 - 2 * level) (by omega) (by omega)]
 refine zl1 (by omega) (by omega) (by omega) (by omega) ?_
 rw [zb5]
 exact k
end
end
variable {b : Bl}
section
set_option maxRecDepth 1000000
variable {Q : V → Mem → Prop}
structure Yb where
 place : Int
 make : Int
 lab : Int
 rate : Int
structure Kt where
 ty : Int
 bl : List Bl
 pl : Int
 bays : List Yb
 ch : Int
abbrev eYb (y : Yb) : List U := [.n y.place, .n y.make, .n y.lab, .n y.rate]
abbrev yVb (y : Yb) : V := .a [.i y.place, .i y.make, .i y.lab, .i y.rate]
abbrev ctV (C : Kt) : V := .a [.i C.ty, .l 7 (C.bl.map eB), .i C.pl, .l 4 (C.bays.map eYb), .i C.ch, .i 200, .i 1, .i 500]
def bZ : Bl := ⟨0, 0, 0, [], 0, 0, 0⟩
def yZ : Yb := ⟨0, 0, 0, 0⟩
theorem zma {F : Int → Int → Int → Int → Int → Prop} {y : Yb} : post [.agg [.i .i64, .i .i64, .i .i64, .i .i64], .I] [] F (.t [yVb y, .i e]) [] = F y.place y.make y.lab y.rate e := rfl
theorem zwl {F : Int → Int → Int → List (List U) → Int → Int → Int → Int → Prop} : post [.agg [.i .i64, .i .i64, .i .i64, .l 2, .i .i64, .i .i64, .i .i64], .I] [] F (.t [aB b, .i e]) [] = F b.makes b.per b.time (b.needs.map eS) b.copy b.study b.most e := rfl
theorem bay_S {C : Kt} (hl : C.bays.length ≤ 1000) (k1 : (n < 1 ∨ (C.bays.length : Int) < n) → Q (.t [yVb yZ, .i 3]) []) (k2 : ∀ (i : Nat) (y : Yb), C.bays[i]? = some y → n = (i : Int) + 1 → Q (.t [yVb y, .i 0]) []) :
 PRun Tryz.prog 180 [] [ctV C, .i n] Q := by
 have hlen : ((C.bays.map eYb).length : Int) = (C.bays.length : Int) := by rw [zzc]
 refine S180 (S282 (zng (a := 1) (b := ((C.bays.map eYb).length : Int)) (fun h => ?_) fun h => ?_))
 · show Q (.t [yVb yZ, .i 3]) []
   refine k1 ?_
   have : ¬ (1 ≤ n ∧ n ≤ ((C.bays.map eYb).length : Int)) := fun hh => by rw [inJ_iff.2 hh] at h; cases h
   omega
 · have h := inJ_iff.1 h
   obtain ⟨i, hi⟩ := z1f (show 0 ≤ n - 1 by omega)
   have hlt : i < C.bays.length := by omega
   have hg := zzb hlt
   rw [w64 (x := n - 1) (by omega) (by omega), zah (r := eYb C.bays[i]) (by omega) (by rw [hi, zzs, zzg, hg]; rfl)]
   simp only [eYb, ug0, ugs, zbo]
   exact k2 i _ hg (by omega)
theorem blue_S {C : Kt} (hl : C.bl.length ≤ 1000) (k1 : (n < 1 ∨ (C.bl.length : Int) < n) → Q (.t [aB bZ, .i 3]) []) (k2 : ∀ (i : Nat) (b : Bl), C.bl[i]? = some b → n = (i : Int) + 1 → Q (.t [aB b, .i 0]) []) :
 PRun Tryz.prog 182 [] [ctV C, .i n] Q := by
 have hlen : ((C.bl.map eB).length : Int) = (C.bl.length : Int) := by rw [zzc]
 refine S182 (S284 (zng (a := 1) (b := ((C.bl.map eB).length : Int)) (fun h => ?_) fun h => ?_))
 · show Q (.t [aB bZ, .i 3]) []
   refine k1 ?_
   have : ¬ (1 ≤ n ∧ n ≤ ((C.bl.map eB).length : Int)) := fun hh => by rw [inJ_iff.2 hh] at h; cases h
   omega
 · have h := inJ_iff.1 h
   obtain ⟨i, hi⟩ := z1f (show 0 ≤ n - 1 by omega)
   have hlt : i < C.bl.length := by omega
   have hg := zzb hlt
   rw [w64 (x := n - 1) (by omega) (by omega), zah (r := eB C.bl[i]) (by omega) (by rw [hi, zzs, zzg, hg]; rfl)]
   simp only [eB, ug0, ugs, zbo, dL_l]
   exact k2 i _ hg (by omega)
section
variable {b : Bl}
noncomputable def ze5 (b : Bl) (level steps : Int) : Int × Int := if zd2 b 32 = 0 ∧ inJ level 0 10 = true ∧ inJ steps 1 (10 - level) = true then (b.study * ((level + steps) * (level + steps + 1) - level * (level + 1)) / 2, 0) else (0, 1)
noncomputable def zug (b : Bl) (copies runs : Int) : Int × Int := if zd2 b 32 = 0 ∧ inJ copies 1 10 = true ∧ inJ runs 1 b.most = true then (b.copy * copies * runs, 0) else (0, 1)
noncomputable def zkn (b : Bl) (runs : Int) : Stk × Int := if zd2 b 32 = 0 ∧ inJ runs 1 1000 = true then ((b.makes, b.per * runs), 0) else ((0, 0), 1)
theorem zqr {a b : Int} : inn n a b = inJ n a b := by
 rw [Bool.eq_iff_iff, zgu, inJ_iff]
theorem zed {x y X Y : Int} (h0 : 0 ≤ x) (h1 : x ≤ X) (h2 : 0 ≤ y) (h3 : y ≤ Y) : 0 ≤ x * y ∧ x * y ≤ X * Y := ⟨z2y h0 h2, z15 h1 h3 h2 (by omega)⟩
theorem zrk {st steps : Int} (hs : 0 ≤ st ∧ st ≤ 1048576) (hl : 0 ≤ level ∧ level ≤ 10) (h2 : 1 ≤ steps ∧ steps ≤ 10 - level) :
 (0 ≤ (level + steps) * (level + steps + 1) ∧ (level + steps) * (level + steps + 1) ≤ 110) ∧ (0 ≤ level * (level + 1) ∧ level * (level + 1) ≤ 110) ∧ (0 ≤ (level + steps) * (level + steps + 1) - level * (level + 1)) ∧ 0 ≤ st * ((level + steps) * (level + steps + 1) - level * (level + 1)) ∧ st * ((level + steps) * (level + steps + 1) - level * (level + 1)) ≤ 115343360 := by
 have a1 := zed (x := level + steps) (y := level + steps + 1) (X := 10) (Y := 11) (by omega) (by omega) (by omega) (by omega)
 have a2 := zed (x := level) (y := level + 1) (X := level + steps) (Y := level + steps + 1) (by omega) (by omega) (by omega) (by omega)
 generalize (level + steps) * (level + steps + 1) = A at *
 generalize level * (level + 1) = B at *
 have a3 := zed (x := st) (y := A - B) (X := 1048576) (Y := 110) hs.1 hs.2 (by omega) (by omega)
 generalize st * (A - B) = S at *
 omega
theorem zvh {steps : Int} (hb : b.Rg) (h0 : 0 ≤ level ∧ level ≤ 10) (k : Q (vII (ze5 b level steps)) []) : PRun Tryz.prog 186 [] [aB b, .i level, .i steps] Q := by
 refine S186 (zob (L := [(level, 0, 10), (steps, 1, zy5 .i64 (10 - level))]) hb (by simp) ?_)
 rw [zbk, w64 (x := 10 - level) (by omega) (by omega)]
 simp only [ze3, z1t, z2l, z2a, zqr]
 unfold ze5 at k
 refine zfn (cB (fun h1 => ?_) fun h1 => ?_)
 · simp only [zy9, decide_eq_true_eq] at h1
   rw [if_pos h1] at k
   obtain ⟨c1, c2, c3⟩ := h1
   have ok := (blueE_ok.1 c1).study
   rw [inJ_iff] at c2 c3
   obtain ⟨p1, p2, p3, p4, p5⟩ := zrk ok c2 c3
   refine ⟨by decide, ?_⟩
   rw [w64 (x := level + steps) (by omega) (by omega), w64 (x := level + steps + 1) (by omega) (by omega), w64 (x := level + 1) (by omega) (by omega), w64 (x := (level + steps) * (level + steps + 1)) (by omega) (by omega), w64 (x := level * (level + 1)) (by omega) (by omega),
    w64 (x := (level + steps) * (level + steps + 1) - level * (level + 1)) (by omega) (by omega), w64 (x := b.study * _) (by omega) (by omega), z2w p4, w64 (by omega) (by omega)]
   exact k
 · rw [if_neg] at k
   · exact k
   · rintro ⟨c1, c2, c3⟩
     rw [decide_eq_true c1, c2, c3] at h1
     cases h1
theorem copy_S {copies : Int} (hb : b.Rg) (k : Q (vII (zug b copies runs)) []) : PRun Tryz.prog 187 [] [aB b, .i copies, .i runs] Q := by
 refine S187 (zob (L := [(copies, 1, 10), (runs, 1, b.most)]) hb (by simp) ?_)
 rw [zbk]
 simp only [ze3, z1t, z2l, z2a, zqr]
 unfold zug at k
 refine zfn (cB (fun h1 => ?_) fun h1 => ?_)
 · simp only [zy9, decide_eq_true_eq] at h1
   rw [if_pos h1] at k
   obtain ⟨c1, c2, c3⟩ := h1
   have ok := blueE_ok.1 c1
   have o1 := ok.copy; have o2 := ok.most
   rw [inJ_iff] at c2 c3
   have a1 := zed (x := b.copy) (y := copies) (X := 1048576) (Y := 10) (by omega) (by omega) (by omega) (by omega)
   have a2 := zed (x := b.copy * copies) (y := runs) (X := 10485760) (Y := 1000) (by omega) (by omega) (by omega) (by omega)
   rw [w64 (x := b.copy * copies) (by omega) (by omega), w64 (by omega) (by omega)]
   exact k
 · rw [if_neg] at k
   · exact k
   · rintro ⟨c1, c2, c3⟩
     rw [decide_eq_true c1, c2, c3] at h1
     cases h1
theorem makes_S (hb : b.Rg) (k : Q (.t [.a [.i (zkn b runs).1.1, .i (zkn b runs).1.2], .i (zkn b runs).2]) []) : PRun Tryz.prog 203 [] [aB b, .i runs] Q := by
 refine S203 (zob (L := [(runs, 1, 1000)]) hb (by simp) ?_)
 rw [zbk]
 simp only [ze3, z1t, z2l, z2a, zqr]
 unfold zkn at k
 refine zfn (cB (fun h1 => ?_) fun h1 => ?_)
 · simp only [zy9, decide_eq_true_eq] at h1
   rw [if_pos h1] at k
   obtain ⟨c1, c2⟩ := h1
   have o1 := (blueE_ok.1 c1).per
   rw [inJ_iff] at c2
   have a1 := zed (x := b.per) (y := runs) (X := 1048576) (Y := 1000) (by omega) (by omega) (by omega) (by omega)
   rw [w64 (by omega) (by omega)]
   exact k
 · rw [if_neg] at k
   · exact k
   · rintro ⟨c1, c2⟩
     rw [decide_eq_true c1, c2] at h1
     cases h1
end
def feeY (rate time : Int) : Int × Int := if inJ rate 0 10000 = true ∧ inJ time 0 1099511627776 = true then (upI (time * rate) 10000, 0) else (0, 1)
theorem feeY_bd {rate time : Int} (h1 : 0 ≤ rate ∧ rate ≤ 10000) (h2 : 0 ≤ time ∧ time ≤ 1099511627776) : 0 ≤ upI (time * rate) 10000 ∧ upI (time * rate) 10000 ≤ time := by
 have a1 := zed (x := time) (y := rate) (X := time) (Y := 10000) h2.1 (zzw _) h1.1 h1.2
 unfold upI
 omega
theorem feeBay_S {rate time : Int} (k : Q (vII (feeY rate time)) []) : PRun Tryz.prog 188 [] [.i rate, .i time] Q := by
 unfold feeY at k
 refine S188 (zng (fun h => ?_) fun h => cIf (fun h2 => ?_) fun h2 => cIf (fun h3 => ?_) fun h3 => ?_)
 · rw [if_neg (by rw [h]; simp)] at k; exact k
 · rw [if_neg (by rintro ⟨-, hh⟩; have := inJ_iff.1 hh; omega)] at k; exact k
 · rw [if_neg (by rintro ⟨-, hh⟩; have := inJ_iff.1 hh; omega)] at k; exact k
 · rw [if_pos ⟨h, inJ_iff.2 ⟨by omega, by omega⟩⟩] at k
   have h := inJ_iff.1 h
   have hf := zed (x := time) (y := rate) (X := 1099511627776) (Y := 10000) (by omega) (by omega) h.1 h.2
   refine zl1 (by omega) (by omega) (by omega) (by omega) ?_
   rw [zb5]
   exact k
end
section
open Go.ChangeShapes Go.WideShapes Go.ChangeAt Go.RowKit
theorem Tryz.own : ownKnob Tryz.prog.godebug = none := by kernel_rfl
theorem Tryz.laidOut : laidOutB Tryz.prog = true := by kernel_rfl
theorem belowOf {W W' : World} (k : Keep W.heap W'.heap) (s : Same W W') : RowKit.Below W.heap.size W W' :=
 ⟨s.os, s.tape, s.output, k.size, fun b hb => k.blk b hb (by simp)⟩
theorem rp_slice {a : Option Addr} {n c : Nat} {u : U} (h : RdL D (Value.slice a n c).cells.toList [u]) : Rp D [] (.slice a n c) (.u u) := by
 have h : RdL D [.slice a n c] [u] := h
 cases h with | cons a _ => exact .u a
theorem zwf {v : Value} {x : U} (hv : ∀ cs, v ≠ .agg cs) (h : RdL D v.cells.toList [x]) : Rd D v x := by
 have e : v.cells.toList = [v] := by cases v <;> first | rfl | exact absurd rfl (hv _)
 rw [e] at h
 cases h with | cons a _ => exact a
theorem rd_int {w : World} {r : Reach} {b t : Nat} {v : Value} {k : IntKind} {x : U} (hv : Value.okWide P w r b t v) (hu : P.underlying t = some (.int k)) (h : RdL D v.cells.toList [x]) : Rd D v x := by
 refine zwf (fun cs e => ?_) h
 subst e
 unfold Value.okWide at hv
 rw [hu] at hv
 simp only [Cell.okWide, hu, Cell.ok] at hv
theorem SAt.all (h : zaf) : SAt (zph h) [] [] [] [] h := ⟨rfl, rfl, fun i L ab ch h => by simp at h, by simpa using St.all h⟩
end
section
set_option maxRecDepth 1000000
def p0 : Tb := [(oK 0, 0), (oK 1, 60), (oK 2, 500), (oK 3, 2)]
def b0 : Tb := [(⟨1, 0, 1, 1⟩, 60), (⟨1, 0, 1, 2⟩, 40), (⟨1, 0, 1, 3⟩, 20), (⟨2, 0, 1, 1⟩, 60), (⟨2, 0, 1, 2⟩, 40), (⟨2, 0, 1, 3⟩, 20)]
def purA : List V := [.l 2 [[.n 0, .n 0], [.n 1, .n 60], [.n 2, .n 500], [.n 3, .n 2]]]
def binA : List V := [.l 5 [[.n 1, .n 0, .n 1, .n 1, .n 60], [.n 1, .n 0, .n 1, .n 2, .n 40], [.n 1, .n 0, .n 1, .n 3, .n 20], [.n 2, .n 0, .n 1, .n 1, .n 60], [.n 2, .n 0, .n 1, .n 2, .n 40], [.n 2, .n 0, .n 1, .n 3, .n 20]]]
section
variable {P : Program} {D D' : Fz} {ρ ρ' : List Loc} {m m' : Mem} {chs C : List zac} {h h' : zaf} {ro hr : List Nat}
def spClo (G : Nat) (Ts : List TypeId) (A : List V) (R : V) (T : Mem) (hA : zag A = []) (hren : zd1 (fun b => zjt [] b 0) A = A) (hrun : PRun P G [] A fun x m => x = R ∧ m = T) : SP P where
 f ro _ g args m K := cond (zy7 g G) (match frzL ro m (ztu P Ts args) with
   | some (as', m1) => some (as' = A ∧ K (zcm (fK [] m1.length) R) (backM m1 [] T))
   | none => some False) none
 ok := by
  intro ro hr X call hX hcall g args m KS p hs hp D ρ chs C h vs xx M ha
  cases hg : zy7 g G with
  | false => rw [hg] at hs; cases hs
  | true =>
    rw [hg] at hs
    have := zzd hg
    subst this
    simp only [cond_true] at hs
    split at hs
    · rename_i as' m1 hf
      cases hs
      obtain ⟨rfl, hK⟩ := hp
      have ha := zmj (P := P) (Ts := Ts) ha
      obtain ⟨D1, c1, n1, M1, ra⟩ := zo2 hf M ha
      refine (zqi (P := P) (ro := ro) (hr := hr) (X := X) (KS := KS) ⟨[], R, T, by simp, fun b hb => by simp at hb, fun b hb => by simp at hb, fun b hb => by rw [hA] at hb; simp at hb, by rw [hren]; exact hrun, hK⟩ M1 ra).mono ?_
      rintro v h' ⟨D2, ρ2, m2, c2, x, n2, M2, hv, hq⟩
      exact ⟨D2, ρ2, m2, c2, x, n1.trans n2, M2, hv, hq⟩
    · cases hs; exact hp.elim
theorem PRun.packN {T T2 : Mem} (hh : PRun P g [] args fun x m' => x = .t [.r 0 0, .i 0] ∧ m' = T) (hN : Nrm T T2) (hS : S T2) : PRun P g [] args fun x m' => x = .t [.r 0 0, .i 0] ∧ m' = [.o (Ob.of S)] := by
 intro D ρ chs C hp vs M F
 have hρ : ρ = [] := z0v M.len
 subst hρ
 refine (hh D [] chs C hp vs M F).mono ?_
 rintro v h2 ⟨D2, s, cs, x, m', le, M2, hv, rfl, rfl⟩
 cases hv with
 | t hv =>
   cases hv with
   | cons h1 h3 =>
     obtain ⟨L, hL, rfl⟩ := h1.r_inv
     obtain ⟨ρ2, cs2, l1, l2, l3, pm, ent⟩ := hN D2 s cs (by simpa using M2.len) M2.lch (by simpa using M2.ent)
     refine ⟨D2, [L], [cs2.flatten], _, _, le, ⟨rfl, rfl, ?_, M2.st.perm (by simpa using pm.append_right _)⟩, .t (.cons (.r rfl) (zer h3 rfl)), rfl, rfl⟩
     rintro i K ab c q1 q2 q3
     cases i with
     | zero =>
       simp at q1 q2 q3
       subst q1 q2 q3
       exact .o ⟨T2, ρ2, cs2, hS, l1, l2, ⟨L, l3 L (by simpa using hL), rfl⟩, rfl, ent⟩
     | succ i => simp at q2
end
theorem que_nrm : Nrm [.c [.nl 3, .m 1, .i 256, .i 1], .p .n 1 false []] (qM [] [] 256 1) := by
 intro D ρ chs h1 h2 he
 match ρ, chs, h1, h2 with
 | [L0, L1], [c0, c1], _, _ =>
   have e0 := he 0 L0 _ c0 rfl rfl rfl
   have e1 := he 1 L1 _ c1 rfl rfl rfl
   refine ⟨[L0, ⟨0, none, 0, 0, none⟩, L1], [c0, [], c1], rfl, rfl, fun L h => h, by simp, fun i L ab c q1 q2 q3 => ?_⟩
   match i, q1, q2, q3 with
   | 0, q1, q2, q3 =>
     cases q1; cases q2; cases q3
     cases e0 with
     | c hc =>
       cases hc with
       | cons a1 _ hc =>
         cases hc with
         | cons a2 _ hc =>
           cases a1
           cases a2 with
           | m hm =>
             cases hm
             refine .c (.cons (.w (b := 1) (L := ⟨0, none, 0, 0, none⟩) rfl) (fun _ _ _ h => nomatch h) (.cons (.m (b := 2) rfl) (fun _ _ _ h => nomatch h) ?_))
             cases hc with
             | cons a3 _ hc =>
               cases hc with
               | cons a4 _ hc =>
                 cases hc
                 cases a3; cases a4
                 rename_i x3 x4
                 exact .cons (.u x3) (fun _ _ _ h => nomatch h) (.cons (.u x4) (fun _ _ _ h => nomatch h) .nil)
   | 1, q1, q2, q3 =>
     cases q1; cases q2; cases q3
     exact .w (.nil none) rfl
   | 2, q1, q2, q3 =>
     cases q1; cases q2; cases q3
     cases e1 with
     | p a b c => exact .p a b c
   | i + 3, q1, q2, q3 => simp at q2
theorem srt_of {l : Tb} (h : (l.map fun r => (r.1.a, r.1.b, r.1.c, r.1.d)).Pairwise (fun x y => x.1 < y.1 ∨ (x.1 = y.1 ∧ (x.2.1 < y.2.1 ∨ (x.2.1 = y.2.1 ∧ (x.2.2.1 < y.2.2.1 ∨ (x.2.2.1 = y.2.2.1 ∧ x.2.2.2 < y.2.2.2))))))) : Srt l := by
 rw [z19] at h
 exact h
theorem p0_inv : PInv p0 562 where
 srt := srt_of (by decide)
 key := by decide
 sum := by decide
 top := by decide
theorem b0_inv : BInv b0 where
 srt := srt_of (by decide)
 key := by decide
 top d := by
  unfold tyQ b0
  simp only [zd4]
  repeat' split
  all_goals omega
theorem pur1_S : PRun Tryz.prog 24 [] purA fun x m => x = .t [.r 0 0, .i 0] ∧ m = [pC p0 562] :=
 purl_S (l := p0) (by decide) p0_inv ⟨rfl, rfl⟩
theorem bin1_S : PRun Tryz.prog 25 [] binA fun x m => x = .t [.r 0 0, .i 0] ∧ m = [bK b0] :=
 binl_S (l := b0) (by decide) b0_inv ⟨rfl, rfl⟩
theorem que1_S : PRun Tryz.prog 26 [] [.i 256] fun x m => x = .t [.r 0 0, .i 0] ∧ m = [qO [] 256 1] :=
 PRun.packN qnew_S que_nrm ⟨⟨by decide, by decide, by decide, by decide, fun x hx => by simp at hx⟩, [], [], ⟨fun i _ x y hx => by simp at hx, ⟨fun i x hx => by simp at hx, fun id r h => (by cases h), by simp⟩, by simp [Ids]⟩, .refl _, rfl⟩
theorem cloE_S : PRun Tryz.prog 165 [] [.l 1 []] fun x m => x = .w 0 ∧ m = [.w iT 1 []] := ze0 (l := []) (by decide) ⟨rfl, rfl⟩
end
section
set_option maxRecDepth 100000
theorem mixTn6 : Tryz.prog.follows .mixedOrders = true := by kernel_rfl
theorem S70 {b c a : Int} (hh : (PRun Tryz.prog 163 [] [.l 4 [[.n 1, .n b, .n 1, .n 1000], [.n c, .n 1, .n a, .n 0]]] (fun d e => d = .t [.r 0 0, .i 0] ∧ e = [.c [.w 1, .m 2], .cw 270 3 4 [.i b, .l 1 [], .l 1 [], .i 1, .l 1 [], .l 1 [], .i 1, .l 1 [], .l 1 [], .i a, .l 1 [], .l 1 []], .p .n 1 false []])) ∧ (0 ≤ (0 : Int) ∧ (0 : Int) < (4 : Int) ∧ (bif 0 == b then (bif decide (0 > b) then Q (.t [.u (.p none), .i 1]) [] else ([.l 1 []] : List V) = [.l 1 []] ∧ (zak [] [] ∧ (([.l 1 []] : List V) = [.l 1 []] ∧ (([.l 1 []] : List V) = [.l 1 []] ∧ (0 ≤ (1 : Int) ∧ (1 : Int) < (4 : Int) ∧ (([.l 1 []] : List V) = [.l 1 []] ∧ (zak [] [] ∧ (([.l 1 []] : List V) = [.l 1 []] ∧ (([.l 1 []] : List V) = [.l 1 []] ∧ (0 ≤ (2 : Int) ∧ (2 : Int) < (4 : Int) ∧ (([.l 1 []] : List V) = [.l 1 []] ∧ (zak [] [] ∧ (([.l 1 []] : List V) = [.l 1 []] ∧ (([.l 1 []] : List V) = [.l 1 []] ∧ (0 ≤ (3 : Int) ∧ (3 : Int) < (4 : Int) ∧ (bif 0 == a then (bif decide (0 > a) then Q (.t [.u (.p none), .i 1]) [] else ([.l 1 []] : List V) = [.l 1 []] ∧ (zak [] [] ∧ (([.l 1 []] : List V) = [.l 1 []] ∧ (([.l 1 []] : List V) = [.l 1 []] ∧ (Q (.t [.r 0 0, .i 0]) (q32 b 2 3 1 4 5 1 6 7 a 8 9 [] [] [] [] [] [] [] [] [])))))) else (bif decide (0 > a) then Q (.t [.u (.p none), .i 1]) [] else ([.l 1 []] : List V) = [.l 1 []] ∧ (zak [] [] ∧ (([.l 1 []] : List V) = [.l 1 []] ∧ (([.l 1 []] : List V) = [.l 1 []] ∧ (Q (.t [.r 0 0, .i 0]) (q32 b 2 3 1 4 5 1 6 7 a 8 9 [] [] [] [] [] [] [] [] [])))))))))))))))))))))) else (bif decide (0 > b) then Q (.t [.u (.p none), .i 1]) [] else ([.l 1 []] : List V) = [.l 1 []] ∧ (zak [] [] ∧ (([.l 1 []] : List V) = [.l 1 []] ∧ (([.l 1 []] : List V) = [.l 1 []] ∧ (0 ≤ (1 : Int) ∧ (1 : Int) < (4 : Int) ∧ (([.l 1 []] : List V) = [.l 1 []] ∧ (zak [] [] ∧ (([.l 1 []] : List V) = [.l 1 []] ∧ (([.l 1 []] : List V) = [.l 1 []] ∧ (0 ≤ (2 : Int) ∧ (2 : Int) < (4 : Int) ∧ (([.l 1 []] : List V) = [.l 1 []] ∧ (zak [] [] ∧ (([.l 1 []] : List V) = [.l 1 []] ∧ (([.l 1 []] : List V) = [.l 1 []] ∧ (0 ≤ (3 : Int) ∧ (3 : Int) < (4 : Int) ∧ (bif 0 == a then (bif decide (0 > a) then Q (.t [.u (.p none), .i 1]) [] else ([.l 1 []] : List V) = [.l 1 []] ∧ (zak [] [] ∧ (([.l 1 []] : List V) = [.l 1 []] ∧ (([.l 1 []] : List V) = [.l 1 []] ∧ (Q (.t [.r 0 0, .i 0]) (q32 b 2 3 1 4 5 1 6 7 a 8 9 [] [] [] [] [] [] [] [] [])))))) else (bif decide (0 > a) then Q (.t [.u (.p none), .i 1]) [] else ([.l 1 []] : List V) = [.l 1 []] ∧ (zak [] [] ∧ (([.l 1 []] : List V) = [.l 1 []] ∧ (([.l 1 []] : List V) = [.l 1 []] ∧ (Q (.t [.r 0 0, .i 0]) (q32 b 2 3 1 4 5 1 6 7 a 8 9 [] [] [] [] [] [] [] [] []))))))))))))))))))))))))) : PRun Tryz.prog 70 [] [.l 4 [[.n 1, .n b, .n 1, .n 1000], [.n c, .n 1, .n a, .n 0]], .l 2 [[.l 1 [], .l 1 []], [.l 1 [], .l 1 []], [.l 1 [], .l 1 []], [.l 1 [], .l 1 []]]] Q :=
 zad mixTn6 Tryz.func70 (by kernel_rfl) (H := ⟨[], [], [164], [], [], true, 64, KN.no, false, ((spClo 165 [134] [.l 1 []] (.w 0) [.w 3 1 []] rfl rfl cloE_S).or (zvn 163 (.t [.r 0 0, .i 0]) [.c [.w 1, .m 2], .cw 270 3 4 [.i b, .l 1 [], .l 1 [], .i 1, .l 1 [], .l 1 [], .i 1, .l 1 [], .l 1 [], .i a, .l 1 [], .l 1 []], .p .n 1 false []]))⟩) (n := 3) (by kernel_rfl) hh
end
section
set_option maxRecDepth 1000000
section
variable {D : Fz} {ρ : List Loc}
theorem ent_cw4 {L : Loc} {ch : zac} {E : TypeId} {a1 a2 a3 b1 b2 b3 c1 c2 c3 d1 d2 d3 : U} (h : Ent D ρ L (.w E 3 [[a1, a2, a3], [b1, b2, b3], [c1, c2, c3], [d1, d2, d3]]) ch) :
 Ent D ρ L (.cw E 3 4 [.u a1, .u a2, .u a3, .u b1, .u b2, .u b3, .u c1, .u c2, .u c3, .u d1, .u d2, .u d3]) ch := by
 cases h with
 | w own hn =>
   obtain ⟨Lb, La, Ln, Lc, Lo⟩ := L
   simp only at own hn
   subst hn
   cases own with
   | row b Lc arr rows v h1 h2 h3 h4 h5 =>
     obtain ⟨l⟩ := arr
     have hl : l.length = Lc * 3 := by simpa using h1
     have h2' : 4 ≤ Lc := by simpa using h2.1
     have g : ∀ (i j : Nat) (r : List U) (u : U), [[a1, a2, a3], [b1, b2, b3], [c1, c2, c3], [d1, d2, d3]][i]? = some r → r[j]? = some u → l[i * 3 + j]? = some (v i j) := fun i j r u x y => by simpa using h4 i j r u x y
     match l, hl, g with
     | [], hl, _ => simp at hl; omega
     | [_], hl, _ => simp at hl; omega
     | [_, _], hl, _ => simp at hl; omega
     | [_, _, _], hl, _ => simp at hl; omega
     | [_, _, _, _], hl, _ => simp at hl; omega
     | [_, _, _, _, _], hl, _ => simp at hl; omega
     | [_, _, _, _, _, _], hl, _ => simp at hl; omega
     | [_, _, _, _, _, _, _], hl, _ => simp at hl; omega
     | [_, _, _, _, _, _, _, _], hl, _ => simp at hl; omega
     | [_, _, _, _, _, _, _, _, _], hl, _ => simp at hl; omega
     | [_, _, _, _, _, _, _, _, _, _], hl, _ => simp at hl; omega
     | [_, _, _, _, _, _, _, _, _, _, _], hl, _ => simp at hl; omega
     | v0 :: v1 :: v2 :: v3 :: v4 :: v5 :: v6 :: v7 :: v8 :: v9 :: v10 :: v11 :: ps, hl, g =>
       have e0 : v0 = v 0 0 := by simpa using g 0 0 _ _ rfl rfl
       have e1 : v1 = v 0 1 := by simpa using g 0 1 _ _ rfl rfl
       have e2 : v2 = v 0 2 := by simpa using g 0 2 _ _ rfl rfl
       have e3 : v3 = v 1 0 := by simpa using g 1 0 _ _ rfl rfl
       have e4 : v4 = v 1 1 := by simpa using g 1 1 _ _ rfl rfl
       have e5 : v5 = v 1 2 := by simpa using g 1 2 _ _ rfl rfl
       have e6 : v6 = v 2 0 := by simpa using g 2 0 _ _ rfl rfl
       have e7 : v7 = v 2 1 := by simpa using g 2 1 _ _ rfl rfl
       have e8 : v8 = v 2 2 := by simpa using g 2 2 _ _ rfl rfl
       have e9 : v9 = v 3 0 := by simpa using g 3 0 _ _ rfl rfl
       have e10 : v10 = v 3 1 := by simpa using g 3 1 _ _ rfl rfl
       have e11 : v11 = v 3 2 := by simpa using g 3 2 _ _ rfl rfl
       have k : ∀ {v : Value} {u : U} {vs : List Value} {l : List V}, Rd D v u → RpC D ρ vs l → RpC D ρ (v :: vs) (V.u u :: l) := fun a b => .cons (.u a) (fun _ _ _ e => nomatch e) b
       have hc : RpC D ρ [v0, v1, v2, v3, v4, v5, v6, v7, v8, v9, v10, v11] [.u a1, .u a2, .u a3, .u b1, .u b2, .u b3, .u c1, .u c2, .u c3, .u d1, .u d2, .u d3] := by
        rw [e0, e1, e2, e3, e4, e5, e6, e7, e8, e9, e10, e11]
        exact k (h5 0 0 _ _ rfl rfl) (k (h5 0 1 _ _ rfl rfl) (k (h5 0 2 _ _ rfl rfl) (k (h5 1 0 _ _ rfl rfl) (k (h5 1 1 _ _ rfl rfl) (k (h5 1 2 _ _ rfl rfl) (k (h5 2 0 _ _ rfl rfl) (k (h5 2 1 _ _ rfl rfl) (k (h5 2 2 _ _ rfl rfl) (k (h5 3 0 _ _ rfl rfl) (k (h5 3 1 _ _ rfl rfl) (k (h5 3 2 _ _ rfl rfl) .nil)))))))))))
       exact .cw (b := b) (vs := [v0, v1, v2, v3, v4, v5, v6, v7, v8, v9, v10, v11]) (ps := ps) rfl rfl hc rfl (by simpa using hl) ⟨h2', h2.2⟩
end
theorem PRun.cw4 {E : TypeId} {a b d : AB} {a1 a2 a3 b1 b2 b3 c1 c2 c3 d1 d2 d3 : U} {x0 : V} (hh : PRun P g [] args fun x m => x = x0 ∧ m = [a, .w E 3 [[a1, a2, a3], [b1, b2, b3], [c1, c2, c3], [d1, d2, d3]], d]) :
 PRun P g [] args fun x m => x = x0 ∧ m = [a, .cw E 3 4 [.u a1, .u a2, .u a3, .u b1, .u b2, .u b3, .u c1, .u c2, .u c3, .u d1, .u d2, .u d3], d] := by
 intro D ρ chs C h vs M F
 refine (hh D ρ chs C h vs M F).mono ?_
 rintro v h' ⟨D', s, chs', x, m', le, M', hv, rfl, rfl⟩
 refine ⟨D', s, chs', _, [a, .cw E 3 4 [.u a1, .u a2, .u a3, .u b1, .u b2, .u b3, .u c1, .u c2, .u c3, .u d1, .u d2, .u d3], d], le, ⟨M'.len, M'.lch, fun i L ab ch q1 q2 q3 => ?_, M'.st⟩, hv, rfl, rfl⟩
 match i, q2 with
 | 0, q2 => cases q2; exact M'.ent 0 L _ ch q1 rfl q3
 | 1, q2 => cases q2; exact ent_cw4 (M'.ent 1 L _ ch q1 rfl q3)
 | 2, q2 => cases q2; exact M'.ent 2 L _ ch q1 rfl q3
 | i + 3, q2 => simp at q2
theorem PRun.packS {T : Mem} (ix : List Nat) (hh : PRun P g [] args fun x m' => x = .t [.r 0 0, .i 0] ∧ m' = T) (hnd : (0 :: ix).Nodup) (hbl : zfh T.length (0 :: ix) = true) (hcl : zdz (0 :: ix) ((0 :: ix).flatMap fun b => zbb (mg T b)) = true) (hS : S (zly T (0 :: ix))) : PRun P g [] args fun x m' => x = .t [.r 0 0, .i 0] ∧ m' = [.o (Ob.of S)] := by
 intro D ρ chs C hp vs M F
 have hρ : ρ = [] := z0v M.len
 subst hρ
 refine (hh D [] chs C hp vs M F).mono ?_
 rintro v h2 ⟨D2, s, cs, x, m', le, M2, hv, rfl, rfl⟩
 cases hv with
 | t hv =>
   cases hv with
   | cons h1 h3 =>
     obtain ⟨L, hL, rfl⟩ := h1.r_inv
     obtain ⟨c', cs', -, -, Ms⟩ := M2.sub hnd (zb0 hbl) fun b hb c hc => za1 hcl c (z10.2 ⟨b, hb, hc⟩)
     have S2 : St D2 (cs' ++ C) h2 := by
      have := Ms.st
      exact (this.perm (C' := c' ++ (cs' ++ C)) (by simp only [zz4]; exact z0d _ _ _)).drops
     have hL2 : s[0]? = some L := by simpa using hL
     refine ⟨D2, [L], [cs'.flatten], _, [.o (Ob.of S)], le, ⟨rfl, rfl, ?_, S2.perm (by simp)⟩, .t (.cons (.r rfl) (zer h3 rfl)), rfl, rfl⟩
     rintro i K ab c q1 q2 q3
     cases i with
     | zero =>
       simp at q1 q2 q3
       subst q1 q2 q3
       exact .o ⟨_, _, cs', hS, Ms.len, Ms.lch, ⟨L, by simp only [zzv, z28, z0i]; rw [hL2]; rfl, rfl⟩, rfl, Ms.ent⟩
     | succ i => simp at q2
def newL (a b c d : Int) : List Sd := [⟨a, [], []⟩, ⟨b, [], []⟩, ⟨c, [], []⟩, ⟨d, [], []⟩]
theorem bnew_S {a p d : Int} (ha : 0 ≤ a ∧ a ≤ 8) (hd : 0 ≤ d ∧ d ≤ 8) : PRun Tryz.prog 163 [] [.l 4 [[.n 1, .n a, .n 1, .n 1000], [.n p, .n 1, .n d, .n 0]]] fun x m => x = .t [.r 0 0, .i 0] ∧ m = [.c [.w 1, .m 2], .cw 270 3 4 [.i a, .l 1 [], .l 1 [], .i 1, .l 1 [], .l 1 [], .i 1, .l 1 [], .l 1 [], .i d, .l 1 [], .l 1 []], .p .n 1 false []] := by
 refine PRun.cw4 (b := .x) (S163 ?_)
 exact cIf (fun h => by omega) fun _ => cIf (fun h => by omega) fun _ => ⟨by unfold zak; simp, by unfold zak; simp, by unfold zak; simp, cIf (fun h => by omega) fun _ => cIf (fun h => by omega) fun _ => ⟨by unfold zak; simp, rfl, rfl⟩⟩
theorem BIv_new {a b c d : Int} (ha : 0 ≤ a ∧ a ≤ 8) (hb : 0 ≤ b ∧ b ≤ 8) (hc : 0 ≤ c ∧ c ≤ 8) (hd : 0 ≤ d ∧ d ≤ 8) : BIv [] (newL a b c d) where
 pos k s j h1 h2 := by
  have := zzf h1
  simp only [newL, zze, z07, or_false] at this
  rcases this with rfl | rfl | rfl | rfl <;> simp at h2
 only j r h := by cases h
 nd := .nil
 srt s h := by
  simp only [newL, zze, z07, or_false] at h
  rcases h with rfl | rfl | rfl | rfl <;> exact .nil
 len s h := by
  simp only [newL, zze, z07, or_false] at h
  rcases h with rfl | rfl | rfl | rfl <;> simp <;> omega
theorem bload_S {a p d : Int} (ha : 0 ≤ a ∧ a ≤ 8) (hd : 0 ≤ d ∧ d ≤ 8) : PRun Tryz.prog 70 [] [.l 4 [[.n 1, .n a, .n 1, .n 1000], [.n p, .n 1, .n d, .n 0]], .l 2 [[.l 1 [], .l 1 []], [.l 1 [], .l 1 []], [.l 1 [], .l 1 []], [.l 1 [], .l 1 []]]] fun x m => x = .t [.r 0 0, .i 0] ∧ m = [.o (Ob.of (zta (newL a 1 1 d)))] := by
 refine PRun.packS (T := [.c [.w 1, .m 10], .cw 270 3 4 [.i a, .w 2, .w 3, .i 1, .w 4, .w 5, .i 1, .w 6, .w 7, .i d, .w 8, .w 9], .w iT 1 [], .w iT 1 [], .w iT 1 [], .w iT 1 [], .w iT 1 [], .w iT 1 [], .w iT 1 [], .w iT 1 [], .p .n 1 false []]) [1, 10, 2, 3, 4, 5, 6, 7, 8, 9] (S70 ⟨bnew_S ha hd, ?_⟩) (by decide) rfl rfl ⟨[], ⟨a, [], []⟩, ⟨1, [], []⟩, ⟨1, [], []⟩, ⟨d, [], []⟩, rfl, BIv_new ha (by decide) (by decide) hd, rfl⟩
 have one : ∀ {n : Int} {A B : Prop}, 0 ≤ n → B → (bif 0 == n then (bif decide (0 > n) then A else B) else (bif decide (0 > n) then A else B) : Prop) := fun {n A B} h k => cEq (fun _ => cIf (fun h2 => by omega) fun _ => k) fun _ => cIf (fun h2 => by omega) fun _ => k
 have ap : zak [] [] := by unfold zak; simp
 exact ⟨by decide, by decide, one ha.1 ⟨rfl, ap, rfl, rfl, by decide, by decide, rfl, ap, rfl, rfl, by decide, by decide, rfl, ap, rfl, rfl, by decide, by decide, one hd.1 ⟨rfl, ap, rfl, rfl, rfl, rfl⟩⟩⟩
end
def sidesU : List (List U) → List Sd
 | [] => []
 | [_, .i _ a, .i _ b, _] :: t => ⟨a, [], []⟩ :: ⟨b, [], []⟩ :: sidesU t
 | _ :: _ => []
def bayC (cs : List V) : Ob :=
 match cs with
 | _ :: _ :: _ :: .u (.l _ rows) :: _ => Ob.of (zta (sidesU rows))
 | _ => Ob.of fun _ => False
def wnR (args : List V) (m : Mem) : V × Mem :=
 match args with
 | .a cs :: _ => (.t [.r 4 0, .i 0], m ++ [.c (cs ++ [.r 0 0, .r 1 0, .r 2 0, .r 3 0, .r 5 0, .r 6 0, .nl 16]), .c [.nl 13, .i 0], .o (bayC cs)])
 | _ => (.t [], [])
section
set_option maxRecDepth 100000
theorem mixTn8 : Tryz.prog.follows .mixedOrders = true := by kernel_rfl
theorem S7 {w : Int} (hh : PRun Tryz.prog 12 [] [.i w] (post [.agg [.i .i64, .l 7, .i .i64, .l 4, .i .i64, .i .i64, .i .i64, .i .i64], .L 2, .L 5, .L 9] [] (fun c d e f g h i j x y s => (([.l 2 x] : List V) = purA ∧ (([.l 5 y] : List V) = binA ∧ (([.i 256] : List V) = [.i 256] ∧ ((PRun Tryz.prog 27 (q33 (zzq eT p0) 562 (zzq eT b0) (zfl b0) (Ob.of (qS [] 256 1))) [(q24 c d e f g h i j), .r 0 0, .r 1 0, .r 2 0, .r 3 0] (fun α β => α = .t [.r 4 0, .i 0] ∧ β = (q41 (zzq eT p0) 562 (zzq eT b0) (zfl b0) (Ob.of (qS [] 256 1)) c d e f g h i j 0 (bayC [.i c, .l 7 d, .i e, .l 4 f, .i g, .i h, .i i, .i j])))) ∧ (∃ (r : Int → Option (List U) → Option (List U) → Option (List U) → Option (List U) → Option (List U) → List (List U) → Int → Prop) (t : Int → Option (List U) → Option (List U) → Option (List U) → Option (List U) → Option (List U) → List (List U) → Int → Nat), r 0 none none none none none [] 0 ∧ (∀ b : Int, ∀ k : Option (List U), ∀ l : Option (List U), ∀ m : Option (List U), ∀ n : Option (List U), ∀ o : Option (List U), ∀ p : List (List U), ∀ q : Int, r b k l m n o p q → (bif decide (b < (zy6 s : Int)) then elL s b (fun a => dI .i64 (ug a 0) (fun γ => dI .i64 (ug a 1) (fun δ => dI .i64 (ug a 2) (fun ε => dI .i64 (ug a 3) (fun ζ => dI .i64 (ug a 4) (fun η => dI .i64 (ug a 5) (fun θ => dI .i64 (ug a 6) (fun ι => dI .i64 (ug a 7) (fun κ => dI .i64 (ug a 8) (fun μ => PRun Tryz.prog 28 [.c [.l 13 p, .i q]] [.r 0 0, q25 γ δ ε ζ η θ ι κ μ] (post q10 q4 (fun ν ξ u v => (bif ν != zy5 .i64 (b + 1) then Q (.t [.a [.u (.p none), .r 0 0, .r 1 0, .r 2 0, .r 3 0], .u (.b false)]) (q33 (zzq eT p0) 562 (zzq eT b0) (zfl b0) (Ob.of (qS [] 256 1))) else (bif ξ != 0 then Q (.t [.a [.u (.p none), .r 0 0, .r 1 0, .r 2 0, .r 3 0], .u (.b false)]) (q33 (zzq eT p0) 562 (zzq eT b0) (zfl b0) (Ob.of (qS [] 256 1))) else r (zy5 .i64 (b + 1)) k l m n o u v ∧ t (zy5 .i64 (b + 1)) k l m n o u v < t b k l m n o p q) : Prop))))))))))))) else Q (.t [(q26 ), .u (.b true)]) [.c [.i c, .l 7 d, .i e, .l 4 f, .i g, .i h, .i i, .i j, .r 1 0, .r 2 0, .r 3 0, .r 4 0, .r 5 0, .r 6 0, .nl 16], .c [.l 5 (zzq eT p0), .i 562], .c [.l 5 (zzq eT b0), .n .i64 33 (zfl b0)], .o (Ob.of (qS [] 256 1)), .c [.nl 4, .nm], .c [.l 13 p, .i q], .o (bayC [.i c, .l 7 d, .i e, .l 4 f, .i g, .i h, .i i, .i j])])))))) : Prop)))) : PRun Tryz.prog 7 [] [.i w] Q :=
 zad mixTn8 Tryz.func7 (by kernel_rfl) (H := ⟨[((7, 12, 10), ⟨[(17, .I)], [(0, .c [.p, .p, .p, .p, .p]), (8, .c [.l 13, .i .i64])]⟩)], [], [22, 41], [], [], false, 64, KN.no, false, ((((spClo 24 [56] purA (.t [.r 0 0, .i 0]) [pC p0 562] rfl rfl pur1_S).or (spClo 25 [57] binA (.t [.r 0 0, .i 0]) [bK b0] rfl rfl bin1_S)).or (spClo 26 [3] [.i 256] (.t [.r 0 0, .i 0]) [qO [] 256 1] rfl rfl que1_S)).or (spKg 27 wnR))⟩) (n := 4) (by kernel_rfl) hh
theorem S12 {a : Int} (hh : 0 ≤ (1 : Int) ∧ (0 ≤ (2 : Int) ∧ (zak [] [(q19 1 0 1 1 60)] ∧ (zak [(q19 1 0 1 1 60)] [(q19 1 0 1 2 40)] ∧ (zak [(q19 1 0 1 1 60), (q19 1 0 1 2 40)] [(q19 1 0 1 3 20)] ∧ (zak [(q19 1 0 1 1 60), (q19 1 0 1 2 40), (q19 1 0 1 3 20)] [(q19 2 0 1 1 60)] ∧ (zak [(q19 1 0 1 1 60), (q19 1 0 1 2 40), (q19 1 0 1 3 20), (q19 2 0 1 1 60)] [(q19 2 0 1 2 40)] ∧ (zak [(q19 1 0 1 1 60), (q19 1 0 1 2 40), (q19 1 0 1 3 20), (q19 2 0 1 1 60), (q19 2 0 1 2 40)] [(q19 2 0 1 3 20)] ∧ (Q (.t [(q24 4 [[.n 3, .n 2, .n 10, .l 2 [[.n 1, .n 3], [.n 2, .n 1]], .n 2, .n 3, .n 5], [.n 4, .n 1, .n 7, .l 2 [[.n 3, .n 2]], .n 0, .n 0, .n 3]] 2 [[.n 1, .n (zy5 .i64 (1 + zy5 .i64 (BitVec.toNat (BitVec.ofInt 64 a &&& (BitVec.ofInt 64 1)) : Int))), .n 1, .n 1000], [.n (zy5 .i64 (1 + zy5 .i64 (BitVec.toNat (BitVec.ofInt 64 (Int.fdiv a (2 ^ (1))) &&& (BitVec.ofInt 64 1)) : Int))), .n 1, .n (zy5 .i64 (BitVec.toNat (BitVec.ofInt 64 (Int.fdiv a (2 ^ (2))) &&& (BitVec.ofInt 64 1)) : Int)), .n 0]] 3 200 1 500), .l 2 [[.n 0, .n 0], [.n 1, .n 60], [.n 2, .n 500], [.n 3, .n 2]], .l 5 [(q19 1 0 1 1 60), (q19 1 0 1 2 40), (q19 1 0 1 3 20), (q19 2 0 1 1 60), (q19 2 0 1 2 40), (q19 2 0 1 3 20)], .l 9 [(q29 0 1 0 1 1 0 0 (-1) 0), (q29 0 2 0 1 2 0 0 (-1) 0), (q29 0 1 0 1 2 3 0 4 0), (q29 0 2 0 1 1 0 8 (-1) 0), (q29 0 1 0 2 1 0 0 (-1) 0)]]) []))))))))) : PRun Tryz.prog 12 [] [.i a] Q :=
 zad mixTn8 Tryz.func12 (by kernel_rfl) (H := ⟨[], [], [], [], [], false, 64, KN.no, false, SP.no⟩) (n := 2) (by kernel_rfl) hh
end
section
set_option maxRecDepth 100000
open Go.Sort Go.Shelf
abbrev qB (L : List Tm) : Mem := [.c [.w 1], .w 103 3 (L.map rT)]
abbrev qF : V := .f 223 [] [.r 0 0]
theorem aps_S {L : List Tm} (hl : L.length ≤ 100000) : PRun Tryz.prog 307 (qB L) [.nl 0, qF] fun x m => x = .w 2 ∧ m = [.c [.w 1], .w 103 3 (L.map rT), .w 103 3 (L.map rT)] := by
 have hlen : ((L.map rT).length : Int) = (L.length : Int) := by rw [zzc]
 refine S307 ?_
 rw [hlen]
 refine ⟨fun x o => ∃ n : Nat, x = (n : Int) ∧ n ≤ L.length ∧ o = (L.take n).map rT, fun x _ => (L.length - x).toNat, ⟨0, rfl, zz3 _, rfl⟩, ?_⟩
 rintro _ _ ⟨n, rfl, hn, rfl⟩
 refine cIf (fun hlt => ?_) fun hge => ?_
 · obtain ⟨t, ht⟩ : ∃ t, L[n]? = some t := ⟨_, zzb (by omega)⟩
   refine ⟨by omega, hlt, ?_⟩
   rw [zah (r := rT t) (by omega) (by rw [zzs, zzg, ht]; rfl)]
   simp only [rT, ug0, ugs, zbo]
   have e : (L.take n).map rT ++ [[.n t.1, .n t.2.1, .n t.2.2]] = (L.take (n + 1)).map rT := by rw [z1g, ht, zz2]; rfl
   rw [w64n (by omega)]
   refine ⟨by unfold zak; simp; omega, ⟨n + 1, rfl, by omega, e⟩, by first | omega | (dsimp only; omega)⟩
 · have : n = L.length := by omega
   subst this
   rw [z0m]
   exact ⟨rfl, rfl⟩
def sgQ (x y : Int) : Int := if x < y then -1 else if y < x then 1 else 0
def cmpQ (a b : Tm) : Int := if sgQ a.1 b.1 ≠ 0 then sgQ a.1 b.1 else sgQ a.2.1 b.2.1
theorem cmpQ_S (a b : Tm) : PRun Tryz.prog 119 [] [tV a, tV b] fun v _ => v = .i (cmpQ a b) := by
 refine S119 (zpb ?_)
 rw [zaw]
 refine zpb ?_
 rw [zaw]
 refine ⟨by omega, by omega, ?_⟩
 unfold cmpQ sgQ
 by_cases h1 : a.1 < b.1
 · rw [if_pos h1]; rfl
 · by_cases h2 : b.1 < a.1
   · rw [if_neg h1, if_pos h2]; rfl
   · rw [if_neg h1, if_neg h2]
     refine ⟨by omega, by omega, ?_⟩
     by_cases h3 : a.2.1 < b.2.1
     · rw [if_pos h3]; rfl
     · by_cases h4 : b.2.1 < a.2.1
       · rw [if_neg h3, if_pos h4]; rfl
       · rw [if_neg h3, if_neg h4]; rfl
theorem timerSWO : SWO (ltOf cmpQ) where
 irrefl x := by unfold ltOf cmpQ sgQ; simp
 trans x y z h1 h2 := by
  unfold ltOf cmpQ sgQ at *
  simp only [decide_eq_true_eq] at *
  split at h1 <;> split at h2 <;> split <;> omega
 ntrans x y z h1 h2 := by
  unfold ltOf cmpQ sgQ at *
  simp only [decide_eq_false_iff_not] at *
  split at h1 <;> split at h2 <;> split <;> omega
instance : Inhabited Tm := ⟨(0, 0, 0)⟩
theorem callSQ : zbj Tryz.prog 222 := ⟨_, Tryz.func222, by kernel_rfl, by kernel_rfl⟩
theorem callCQ : zbj Tryz.prog 119 := ⟨_, Tryz.func119, by kernel_rfl, by kernel_rfl⟩
theorem cmpQ_le {x y : Tm} (h : cmpQ y x < 0 → False) : leT x y := by
 have h : ¬ cmpQ y x < 0 := h
 unfold cmpQ sgQ at h
 unfold leT
 split at h <;> split at h <;> omega
theorem srtf_S {L : List Tm} (hl : L.length ≤ 100000) (hd : DifT L) : PRun Tryz.prog 117 (qB L) [qF, .f 119 [] []] fun x m => x = .w 2 ∧ m = [.c [.w 1], .w 103 3 (L.map rT), .w 103 3 (ztm (L.map rT))] := by
 refine S117 ⟨S221 ⟨aps_S hl, rfl, rfl⟩, ?_⟩
 have key : PRun Tryz.prog 222 [.w 103 3 (L.map fun x => ([x.1, x.2.1, x.2.2] : List Int).map U.n)] [.w 0, .f 119 [] []] fun x m => x = .t [] ∧ m = [.w 103 3 ((zfm L).map rT)] :=
  sortP (α := Tm) Tryz.sortLT (f := 222) rfl callSQ 3 Tryz.isAgg103 Tryz.sizeOf103 (fun x => [x.1, x.2.1, x.2.2]) (fun _ => rfl) cmpQ timerSWO callCQ (fun x y => cmpQ_S x y) (by omega) fun r hp hs => by
   have e : r = zfm L := zh8 (hp.trans (zap L).symm) (hs.imp fun h => cmpQ_le h) (zb8 L) (DifT.perm hp.symm hd)
   subst e
   exact ⟨rfl, rfl⟩
 refine key.mono ?_
 rintro _ _ ⟨rfl, rfl⟩
 rw [zrl]
 exact ⟨rfl, rfl⟩
theorem qlistG_S {L : List Tm} {most next : Int} (K : DifT L → Q (.l 3 ((zfm L).map rT)) [qO L most next]) : PRun Tryz.prog 44 [qO L most next] [.r 0 0] Q := by
 refine PRun.pack (args := []) rfl ?_
 rintro M ⟨hL, xs, m, hq, hp, rfl⟩
 have hl := hp.length_eq
 have hd : DifT xs := z19.1 hq.ids
 refine S44 ⟨srtf_S (by omega) hd, ?_⟩
 rw [zrl, zvl hp hd]
 exact ⟨rfl, _, qS L most next, .refl _, ⟨hL, xs, m, hq, hp, rfl⟩, K (DifT.perm hp hd)⟩
theorem zwh {L : List Tm} {most next : Int} (K : ∀ ys : List Tm, ys.Perm L → Q (.l 3 (ys.map rT)) [qO L most next]) : PRun Tryz.prog 44 [qO L most next] [.r 0 0] Q := qlistG_S fun _ => K _ (zap L)
end
section
set_option maxRecDepth 1000000
variable {Q : V → Mem → Prop}
theorem PRun.uncV {m : Mem} (hh : PRun P g m args fun x m' => Q (YtacglpinmpncaaaGreat.unc x) (m'.map uncA)) : PRun P g m args Q := by
 intro D ρ chs C h vs M F
 refine (hh D ρ chs C h vs M F).mono ?_
 rintro v h' ⟨D', s, chs', x, m', le, M', hv, hq⟩
 exact ⟨D', s, chs', YtacglpinmpncaaaGreat.unc x, m'.map uncA, le, M'.unc, unc_S hv, hq⟩
theorem clone_S (hl : r.length ≤ 1000) (K : Q (.l 2 r) []) : PRun Tryz.prog 93 [] [.l 2 r] Q := by
 refine PRun.uncV (S93 ?_)
 have ap : zak [] r := by unfold zak; simp; omega
 cases r with
 | nil => exact ⟨K, ap, K⟩
 | cons a r => exact ⟨ap, K⟩
theorem zwp {F : List (List U) → Ob → Prop} : post [.L 3] [.A] F (.l 3 r) [.o X] = F r X := rfl
theorem zws {F : Int → Ob → Prop} : post [.I] [.A] F (.i n) [.o X] = F n X := rfl
theorem zft {F : Int → Int → Ob → Prop} {n' : Int} : post [.I, .I] [.A] F (.t [.i n, .i n']) [.o X] = F n n' X := rfl
theorem post_IIp {F : Int → Int → List (List U) → Int → Prop} {e' : Int} : post [.I, .I] [.c [.l 5, .i .i64]] F (.t [.i e, .i e']) [.c [.l 5 r, .i n]] = F e e' r n := rfl
theorem zsr : ∀ {T : List Tm}, (T.Pairwise fun a b => a.2.1 ≠ b.2.1) → ∀ {a b : Tm}, a ∈ T → b ∈ T → a.2.1 = b.2.1 → a = b
 | [], _, _, _, ha, _, _ => by simp at ha
 | t :: T, h, a, b, ha, hb, e => by
   have h2 := z0h.1 h
   rcases zze.1 ha with rfl | ha' <;> rcases zze.1 hb with rfl | hb'
   · rfl
   · exact absurd e (h2.1 b hb')
   · exact absurd e.symm (h2.1 a ha')
   · exact zsr h2.2 ha' hb' e
def TimF (T : List Tm) (w : Int) (T' : List Tm) : Prop := (∃ t : Tm, (t :: T').Perm T ∧ t.2.2 = w) ∨ ((∀ t ∈ T, t.2.2 ≠ w) ∧ T' = T)
abbrev tp (t : Tm) : Int × Int := (t.1, t.2.2)
theorem zvq {l : List α} {d : α} (h : l[i]? = some d) : ∃ a b, l = a ++ d :: b ∧ a.length = i ∧ ∀ e, l.set i e = a ++ e :: b := by
 obtain ⟨hlt, he⟩ := zza.1 h
 refine ⟨l.take i, l.drop (i + 1), ?_, by rw [zz9]; omega, fun e => ?_⟩
 · rw [← he]; exact (z0t i l).symm.trans (by rw [← List.getElem_cons_drop hlt])
 · rw [List.set_eq_take_append_cons_drop, if_pos hlt]
theorem zs4 {t : Int} (h : zfg L t = 0) : L.length ≤ 8 := by
 unfold zfg at h
 split at h
 · rename_i hh; exact hh.2
 · cases h
theorem zfw (L : List Mk) (x : Mk) (w i : Int) : ofM (L ++ [x]) w i = match ofM L w i with | some m => some m | none => if x.2.1 = w ∧ x.2.2.1 = i then some x else none := by
 unfold ofM
 rw [List.find?_append]
 cases h : L.find? fun x => x.2.1 == w && x.2.2.1 == i with
 | some m => rfl
 | none =>
   simp only [Option.none_or, List.find?_cons, List.find?_nil]
   by_cases hh : x.2.1 = w ∧ x.2.2.1 = i
   · rw [if_pos hh, hh.1, hh.2]; simp
   · rw [if_neg hh]
     have : (x.2.1 == w && x.2.2.1 == i) = false := by
      rw [z3k]
      intro h2
      simp only [zy9, beq_iff_eq] at h2
      exact hh h2
     rw [this]
theorem zkp (L : List Mk) (x : Mk) : zcl (L ++ [x]) = x.1 := by unfold zcl; simp
theorem zr3 {T T' : List Tm} {t : Tm} (h : T.Pairwise fun a b => a.2.1 ≠ b.2.1) (hp : (t :: T').Perm T) : T'.Pairwise fun a b => a.2.1 ≠ b.2.1 :=
 (z0h.1 ((hp.pairwise_iff (fun {a b} hab => Ne.symm hab)).2 h)).2
end
section
set_option maxRecDepth 1000000
variable {Q : V → Mem → Prop}
theorem zsz (hl : l.length ≤ 1000) : PRun Tryz.prog 304 [.w 3 1 (l.map eI), .c [.i j]] [.w 0, .f 370 [] [.r 1 0]] fun x m => x = .w 2 ∧ m = [.x, .c [.i j], .w 3 1 ((l.filter (· != j)).map eI)] := delO_S hl ⟨rfl, rfl⟩
theorem deep0_S (K : Q (.t [.l 1 [[.n 0], [.n 0], [.n 1], [.n 2]], .i 0]) []) : PRun Tryz.prog 160 [] [.i 4, .l 2 [[.n 3, .n 1], [.n 3, .n 2], [.n 4, .n 3]]] Q := by
 have ap : ∀ {a b : List (List U)}, a.length ≤ 9 → b.length ≤ 9 → zak a b := fun ha hb => by unfold zak; omega
 refine S160s ?_
 repeat' first | exact K | apply And.intro | decide | exact ap (by decide) (by decide) | exact zsz (l := [1, 2]) (by decide) | exact zsz (l := [2]) (by decide) | exact zsz (l := [3]) (by decide) | exact zsz (l := [4]) (by decide)
theorem post_l1I : post [.L 1, .I] [] F (.t [.l 1 r, .i e]) [] = F r e := rfl
theorem catS_S {mk pl lb : Int} (h1 : 0 ≤ mk ∧ mk ≤ 8) (h2 : 1 ≤ pl ∧ pl ≤ 2) (h3 : 0 ≤ lb ∧ lb ≤ 8) :
 PRun Tryz.prog 69 [] [.a [.i 4, .l 7 [[.n 3, .n 2, .n 10, .l 2 [[.n 1, .n 3], [.n 2, .n 1]], .n 2, .n 3, .n 5], [.n 4, .n 1, .n 7, .l 2 [[.n 3, .n 2]], .n 0, .n 0, .n 3]], .i 2, .l 4 [[.n 1, .n mk, .n 1, .n 1000], [.n pl, .n 1, .n lb, .n 0]], .i 3, .i 200, .i 1, .i 500]] fun x m => x = .i 0 ∧ m = [] := by
 have ap : ∀ {a b : List (List U)}, a.length ≤ 9 → b.length ≤ 9 → zak a b := fun ha hb => by unfold zak; omega
 refine S69s ?_
 refine zp9 (b := ⟨3, 2, 10, [(1, 3), (2, 1)], 2, 3, 5⟩) (types := 4) ⟨fun t ht => ?_, by decide⟩ ?_
 · simp only [zze, z07, or_false] at ht; rcases ht with rfl | rfl <;> decide
 rw [show zd2 ⟨3, 2, 10, [(1, 3), (2, 1)], 2, 3, 5⟩ 4 = 0 by kernel_rfl, zaw]
 refine cNe (fun h => absurd rfl h) fun _ => zp9 (b := ⟨4, 1, 7, [(3, 2)], 0, 0, 3⟩) (types := 4) ⟨fun t ht => ?_, by decide⟩ ?_
 · simp only [zze, z07, or_false] at ht; subst ht; decide
 rw [show zd2 ⟨4, 1, 7, [(3, 2)], 0, 0, 3⟩ 4 = 0 by kernel_rfl, zaw]
 refine cNe (fun h => absurd rfl h) fun _ => cIf (fun _ => zfn (cIf (fun _ => ?_) fun h => absurd h1.2 h)) fun h => absurd h1.1 h
 refine cIf (fun _ => zfn (cIf (fun _ => ?_) fun h => absurd h2.2 h)) fun h => absurd h2.1 h
 refine cIf (fun _ => zfn (cIf (fun _ => ?_) fun h => absurd h3.2 h)) fun h => absurd h3.1 h
 refine ⟨ap (by decide) (by decide), ap (by decide) (by decide), ap (by decide) (by decide), deep0_S ?_⟩
 rw [post_l1I]
 refine cNe (fun h => absurd rfl h) fun _ => cIf (fun h => absurd h (by decide)) fun _ => ?_
 show ∃ (I1 : Int → Int → Prop) (f1 : Int → Int → Nat), I1 0 1 ∧ _
 refine ⟨fun x i => ∃ n : Nat, i = (n : Int) ∧ n ≤ 4 ∧ x ≤ 8, fun _ i => (4 - i).toNat, ⟨1, rfl, by decide, by decide⟩, ?_⟩
 rintro x _ ⟨n, rfl, hn, hx⟩
 refine cIf (fun hlt => ?_) fun _ => cIf (fun h => by omega) fun _ => ⟨rfl, rfl⟩
 have hlt : n < 4 := by have : (n : Int) < 4 := hlt; omega
 have ew : zy5 .i64 ((n : Int) + 1) = ((n + 1 : Nat) : Int) := w64n (by omega)
 have go : ∀ {y : Int}, y ≤ 8 → (∃ k : Nat, zy5 .i64 ((n : Int) + 1) = (k : Int) ∧ k ≤ 4 ∧ (if y > x then y else x) ≤ 8) ∧ (4 - zy5 .i64 ((n : Int) + 1)).toNat < (4 - (n : Int)).toNat := fun hy => by
  rw [ew]
  exact ⟨⟨n + 1, rfl, by omega, by split <;> omega⟩, by omega⟩
 match n, hlt with
 | 0, _ => exact go (y := 0) (by decide)
 | 1, _ => exact go (y := 0) (by decide)
 | 2, _ => exact go (y := 1) (by decide)
 | 3, _ => exact go (y := 2) (by decide)
end
section
set_option maxRecDepth 1000000
variable {Q : V → Mem → Prop}
structure Wk where
 p : Tb
 b : Tb
 T : List Tm
 next : Int
 Lg : List Mk
 ds : List Dr
 g : Int
 l : List Sd
 js : List Jb
abbrev mkWk (C : Kt) (w : Nat) : AB := .c [.i C.ty, .l 7 (C.bl.map eB), .i C.pl, .l 4 (C.bays.map eYb), .i C.ch, .i 200, .i 1, .i 500, .r 1 0, .r 2 0, .r 3 0, .r 4 0, .r 5 0, .r 6 0, .w w]
abbrev W8 (C : Kt) (s : Wk) : Mem := [mkWk C 7, pC s.p 562, bK s.b, qO s.T 256 s.next, .o (Ob.of (zix s.Lg)), drB s.ds s.g, bO s.l, .w 48 16 (s.js.map za2)]
abbrev W9 (C : Kt) (s : Wk) : Mem := [mkWk C 8, pC s.p 562, bK s.b, qO s.T 256 s.next, .o (Ob.of (zix s.Lg)), drB s.ds s.g, bO s.l, .x, .w 48 16 (s.js.map za2)]
abbrev zur : List BP := [.c [.i .i64, .l 7, .i .i64, .l 4, .i .i64, .i .i64, .i .i64, .i .i64, .r 1 0, .r 2 0, .r 3 0, .r 4 0, .r 5 0, .r 6 0, .ow 48 16], .c [.l 5, .i .i64], .c [.l 5, .n 33], .A, .A, .c [.l 13, .i .i64], .A, .X]
abbrev FWk := Int → List (List U) → Int → List (List U) → Int → Int → Int → Int → List (List U) → List (List U) → Int → List (List U) → List Int → Ob → Ob → List (List U) → Int → Ob → Prop
abbrev apW (C : Kt) (s : Wk) (F : FWk) : Prop := F C.ty (C.bl.map eB) C.pl (C.bays.map eYb) C.ch 200 1 500 (s.js.map za2) (s.p.map eT) 562 (s.b.map eT) (zfl s.b) (Ob.of (qS s.T 256 s.next)) (Ob.of (zix s.Lg)) (s.ds.map eD) s.g (Ob.of (zta s.l))
section
variable {C : Kt} {s : Wk}
theorem zii {F : FWk} : post [] zur F (.t []) (W8 C s) = apW C s F := by kernel_rfl
theorem zgk {F : FWk} : post [] zur F (.t []) (W9 C s) = apW C s F := by kernel_rfl
theorem post_I8 {F : Int → FWk} : post [.I] zur F (.i e) (W8 C s) = apW C s (F e) := by kernel_rfl
theorem zcq {F : Int → FWk} : post [.I] zur F (.i e) (W9 C s) = apW C s (F e) := by kernel_rfl
theorem zr1 {F : Int → Int → FWk} {e' : Int} : post [.I, .I] zur F (.t [.i e, .i e']) (W8 C s) = apW C s (F e e') := by kernel_rfl
theorem zmd {F : Int → Int → FWk} {e' : Int} : post [.I, .I] zur F (.t [.i e, .i e']) (W9 C s) = apW C s (F e e') := by kernel_rfl
theorem zce {F : Int → Int → Int → Int → Int → Int → Int → Int → Int → Int → Int → List (List U) → Int → Int → Int → Int → Int → FWk} {j : Jb} :
 post [.agg [.i .i64, .i .i64, .i .i64, .i .i64, .i .i64, .i .i64, .i .i64, .i .i64, .i .i64, .i .i64, .i .i64, .l 2, .i .i64, .i .i64, .i .i64, .i .i64], .I] zur F (.t [jV j, .i e]) (W8 C s) =
 apW C s (F j.id j.kind j.own j.div j.who j.bay j.draft j.runs j.copies j.time j.fee (j.needs.map eS) j.st j.start j.fin j.left e) := by kernel_rfl
theorem zgi {F : Int → Int → Int → Int → Int → Int → Int → Int → Int → Int → Int → List (List U) → Int → Int → Int → Int → Int → Prop} {j : Jb} :
 post [.agg [.i .i64, .i .i64, .i .i64, .i .i64, .i .i64, .i .i64, .i .i64, .i .i64, .i .i64, .i .i64, .i .i64, .l 2, .i .i64, .i .i64, .i .i64, .i .i64], .I] [] F (.t [jV j, .i e]) [] =
 F j.id j.kind j.own j.div j.who j.bay j.draft j.runs j.copies j.time j.fee (j.needs.map eS) j.st j.start j.fin j.left e := by kernel_rfl
theorem post_BIA {F : Bool → Int → Ob → Prop} : post [.B, .I] [.A] F (.t [.u (.b x), .i n]) [.o X] = F x n X := rfl
theorem dJx {K : Int → Int → Int → Int → Int → Int → Int → Int → Int → Int → Int → List (List U) → Int → Int → Int → Int → Prop} {j : Jb} (k : K j.id j.kind j.own j.div j.who j.bay j.draft j.runs j.copies j.time j.fee (j.needs.map eS) j.st j.start j.fin j.left) :
 dI .i64 (ug (za2 j) 0) (fun x1 => dI .i64 (ug (za2 j) 1) (fun x2 => dI .i64 (ug (za2 j) 2) (fun x3 => dI .i64 (ug (za2 j) 3) (fun x4 => dI .i64 (ug (za2 j) 4) (fun x5 => dI .i64 (ug (za2 j) 5) (fun x6 => dI .i64 (ug (za2 j) 6) (fun x7 => dI .i64 (ug (za2 j) 7) (fun x8 => dI .i64 (ug (za2 j) 8) (fun x9 => dI .i64 (ug (za2 j) 9) (fun x10 => dI .i64 (ug (za2 j) 10) (fun x11 => dL 2 (ug (za2 j) 11) (fun l1 => dI .i64 (ug (za2 j) 12) (fun x12 => dI .i64 (ug (za2 j) 13) (fun x13 => dI .i64 (ug (za2 j) 14) (fun x14 => dI .i64 (ug (za2 j) 15) (fun x15 => K x1 x2 x3 x4 x5 x6 x7 x8 x9 x10 x11 l1 x12 x13 x14 x15)))))))))))))))) := k
def shJ (js : List Jb) : Prop := ∀ j ∈ js, j.needs.length ≤ 1000
theorem idx {n : Nat} (h1 : 1 ≤ id) (h2 : id ≤ (n : Int)) : ∃ i : Nat, id = (i : Int) + 1 ∧ i < n := by
 obtain ⟨i, hi⟩ := z1f (show 0 ≤ id - 1 by omega)
 exact ⟨i, by omega, by omega⟩
theorem zqk (hw : shJ s.js) (hl : s.js.length ≤ 1000) (k1 : (id < 1 ∨ (s.js.length : Int) < id) → Q (.t [jV jZ, .i 3]) (W8 C s))
 (k2 : ∀ (i : Nat) (j : Jb), s.js[i]? = some j → id = (i : Int) + 1 → Q (.t [jV j, .i 0]) (W8 C s)) : PRun Tryz.prog 30 (W8 C s) [.r 0 0, .i id] Q := by
 have hlen : ((s.js.map za2).length : Int) = (s.js.length : Int) := by rw [zzc]
 refine S30 (cIf (fun h => k1 (.inl h)) fun h1 => ?_)
 rw [hlen]
 refine cIf (fun h => k1 (.inr (by omega))) fun h2 => ?_
 rw [w64 (x := id - 1) (by omega) (by omega)]
 refine ⟨by omega, by omega, ?_⟩
 obtain ⟨i, hi, hlt⟩ := idx (id := id) (n := s.js.length) (by omega) (by omega)
 have hg := zzb hlt
 rw [zah (r := za2 s.js[i]) (by omega) (by rw [show (id - 1).toNat = i by omega, zzg, hg]; rfl)]
 refine dJx ?_
 have hs := hw _ (z1x hlt)
 refine clone_S (by rw [zzc]; exact hs) ?_
 rw [post_L]
 exact k2 i s.js[i] hg hi
theorem jobs_S (hw : shJ s.js) (hl : s.js.length ≤ 1000) (K : Q (.l 16 (s.js.map za2)) (W9 C s)) : PRun Tryz.prog 10 (W8 C s) [.r 0 0] Q := by
 have hlen : ((s.js.map za2).length : Int) = (s.js.length : Int) := by rw [zzc]
 refine S10 ⟨fun o x a1 a2 a3 a4 a5 a6 a7 a8 r1 r2 x8 r3 t X1 X2 r4 x9 X3 => ∃ i : Nat, x = (i : Int) ∧ i ≤ s.js.length ∧ o = (s.js.take i).map za2 ∧ C.ty = a1 ∧ C.bl.map eB = a2 ∧ C.pl = a3 ∧ C.bays.map eYb = a4 ∧ C.ch = a5 ∧ 200 = a6 ∧ 1 = a7 ∧ 500 = a8 ∧ s.js.map za2 = r1 ∧ s.p.map eT = r2 ∧ 562 = x8 ∧ s.b.map eT = r3 ∧ zfl s.b = t ∧ Ob.of (qS s.T 256 s.next) = X1 ∧ Ob.of (zix s.Lg) = X2 ∧ s.ds.map eD = r4 ∧ s.g = x9 ∧ Ob.of (zta s.l) = X3,
  fun _ x _ _ _ _ _ _ _ _ _ _ _ _ _ _ _ _ _ _ => (s.js.length - x).toNat, ⟨0, rfl, zz3 _, rfl, rfl, rfl, rfl, rfl, rfl, rfl, rfl, rfl, rfl, rfl, rfl, rfl, rfl, rfl, rfl, rfl, rfl, rfl⟩, ?_⟩
 rintro _ _ _ _ _ _ _ _ _ _ _ _ _ _ _ _ _ _ _ _ ⟨i, rfl, hi, rfl, rfl, rfl, rfl, rfl, rfl, rfl, rfl, rfl, rfl, rfl, rfl, rfl, rfl, rfl, rfl, rfl, rfl, rfl⟩
 rw [hlen]
 refine cIf (fun hc => ?_) fun hc => ?_
 · have hlt : i < s.js.length := by omega
   have e1 : zy5 .i64 ((i : Int) + 1) = ((i + 1 : Nat) : Int) := by rw [w64 (by omega) (by omega)]; omega
   rw [e1]
   refine zqk hw hl (fun h => by omega) fun j d hg hj => ?_
   have : j = i := by omega
   subst this
   rw [zce]
   have e2 : (s.js.take j).map za2 ++ [za2 d] = (s.js.take (j + 1)).map za2 := by
    rw [z1g, hg, zz2]; rfl
   refine ⟨?_, ⟨j + 1, by first | trivial | rfl, by omega, e2, by first | trivial | rfl, by first | trivial | rfl, by first | trivial | rfl, by first | trivial | rfl, by first | trivial | rfl, by first | trivial | rfl, by first | trivial | rfl, by first | trivial | rfl, by first | trivial | rfl, by first | trivial | rfl, by first | trivial | rfl, by first | trivial | rfl, by first | trivial | rfl, by first | trivial | rfl, by first | trivial | rfl, by first | trivial | rfl, by first | trivial | rfl, by first | trivial | rfl⟩, by dsimp only; omega⟩
   unfold zak
   simp
   omega
 · have : i = s.js.length := by omega
   subst this
   rw [z0m]
   exact K
theorem wlines_S (K : Q (.l 2 (s.l.map lnR)) (W8 C s)) : PRun Tryz.prog 23 (W8 C s) [.r 0 0] Q := S23 (zqh K)
abbrev runW (s : Wk) (i : Nat) (j : Jb) (now : Int) : Wk := { s with T := (now + j.left, s.next, 2 * j.id) :: s.T, next := s.next + 1, js := s.js.set i (jDo 1 j now) }
theorem runs_S {j : Jb} (hw : shJ s.js) (hl : s.js.length ≤ 1000) (hg : s.js[i]? = some j) (hid : j.id = (i : Int) + 1) (he : jE 1 j now = 0) (hT : (s.T.length : Int) < 256) (hn : s.next ≠ 1099511627776) (K : Q (.t []) (W8 C (runW s i j now))) :
 PRun Tryz.prog 200 (W8 C s) [.r 0 0, .i j.id, .i now] Q := by
 have hlen : ((s.js.map za2).length : Int) = (s.js.length : Int) := by rw [zzc]
 have hlt := (zza.1 hg).1
 obtain ⟨hok, hnw, hmay⟩ := jE_zero.1 he
 have hnw := inJ_iff.1 hnw
 have hst : j.st = 1 := by simpa [zmu] using hmay
 obtain ⟨-, -, h3, h4⟩ := zf1 hok (.inl hst)
 refine S200 ?_
 rw [hlen, w64 (x := j.id - 1) (by omega) (by omega)]
 refine ⟨by omega, by omega, ?_⟩
 rw [zah (r := za2 j) (by omega) (by rw [show (j.id - 1).toNat = i by omega, zzg, hg]; rfl)]
 refine dJx (jstart_S (j := j) (hw j (zzf hg)) ?_)
 rw [zgi, he]
 have er : jR 1 j now = jDo 1 j now := by unfold jR; rw [if_pos he]
 rw [er]
 refine cEq (fun _ => ?_) fun h => absurd rfl h
 have ef : (jDo 1 j now).fin = now + j.left := rfl
 rw [ef, w64 (x := 2 * j.id) (by omega) (by omega)]
 refine insert_S (fun h => by omega) (fun h => by omega) fun _ _ _ => ?_
 rw [zft]
 have hset : (s.js.map za2).set i (za2 (jDo 1 j now)) = (s.js.set i (jDo 1 j now)).map za2 := by rw [z1n]
 rw [show zy8 (j.id - 1) = i by omega]
 have e3 : W8 C (runW s i j now) = [mkWk C 7, pC s.p 562, bK s.b, qO ((now + j.left, s.next, 2 * j.id) :: s.T) 256 (s.next + 1), .o (Ob.of (zix s.Lg)), drB s.ds s.g, bO s.l, .w 48 16 ((s.js.set i (jDo 1 j now)).map za2)] := rfl
 rw [e3, ← hset] at K
 have e2 : za2 (jDo 1 j now) = [.n (jDo 1 j now).id, .n (jDo 1 j now).kind, .n (jDo 1 j now).own, .n (jDo 1 j now).div, .n (jDo 1 j now).who, .n (jDo 1 j now).bay, .n (jDo 1 j now).draft, .n (jDo 1 j now).runs, .n (jDo 1 j now).copies, .n (jDo 1 j now).time, .n (jDo 1 j now).fee, .l 2 ((jDo 1 j now).needs.map eS), .n (jDo 1 j now).st, .n (jDo 1 j now).start, .n (now + j.left), .n (jDo 1 j now).left] := by rw [← ef]
 rw [e2] at K
 exact K
theorem stops_S (hid : 0 ≤ id ∧ id ≤ 1099511627776) (hT : s.T.Pairwise fun a b => a.2.1 ≠ b.2.1) (hTl : s.T.length ≤ 1000) (K : ∀ T', TimF s.T (2 * id) T' → Q (.t []) (W8 C { s with T := T' })) :
 PRun Tryz.prog 210 (W8 C s) [.r 0 0, .i id] Q := by
 refine S210 (zwh fun ys hys => ?_)
 rw [zwp, w64 (x := 2 * id) (by omega) (by omega)]
 have hyl := hys.length_eq
 refine ⟨fun x X => SufI ys (fun r => Ob.of (qS s.T 256 s.next) = X ∧ (∀ t ∈ r, t ∈ s.T) ∧ ∀ t ∈ s.T, t.2.2 = 2 * id → t ∈ r) x, fun x _ => zpl ys x, .zero (by omega) ⟨rfl, fun t ht => hys.mem_iff.1 ht, fun t ht _ => hys.mem_iff.2 ht⟩, ?_⟩
 rintro x _ ⟨r, sf, rfl, hr1, hr2⟩
 cases r with
 | nil =>
   rw [sf.d0, cond_false]
   exact K s.T (.inr ⟨fun t ht e => by have := hr2 t ht e; simp at this, rfl⟩)
 | cons q r =>
   simp only [sf.d1, sf.el, rT, ug0, ugs, zbo, cond_true]
   refine cEq (fun hq => ?_) fun hq => sf.step ⟨by first | trivial | rfl, fun t ht => hr1 t (zzy _ ht), fun t ht e => ?_⟩
   · refine cancel_S (fun hno => absurd rfl (hno q (hr1 q zz1))) fun t T' hpm ht => ?_
     rw [zws]
     have hqt : t = q := zsr hT (hpm.mem_iff.1 zz1) (hr1 q zz1) ht
     exact K T' (.inl ⟨t, hpm, by rw [hqt]; exact hq⟩)
   · rcases zze.1 (hr2 t ht e) with rfl | h
     · exact absurd e hq
     · exact h
end
end
section
set_option maxRecDepth 1000000
variable {Q : V → Mem → Prop}
inductive Lvs (s : Wk) (id now : Int) : Wk → Prop
 | no {T' : List Tm} : TimF s.T (2 * id) T' → (∀ x ∈ s.l, id ∉ x.run ∧ id ∉ x.wait) → Lvs s id now { s with T := T' }
 | one {T' : List Tm} {k : Nat} {x : Sd} : TimF s.T (2 * id) T' → s.l[k]? = some x → (id ∈ x.run ∨ id ∈ x.wait) → (lvS x id).2 = 0 → Lvs s id now { s with T := T', l := s.l.set k (lvS x id).1 }
 | two {T' : List Tm} {k : Nat} {x : Sd} {i : Nat} {j : Jb} : TimF s.T (2 * id) T' → s.l[k]? = some x → (id ∈ x.run ∨ id ∈ x.wait) → (lvS x id).2 = (i : Int) + 1 → s.js[i]? = some j → j.id = (i : Int) + 1 → jE 1 j now = 0 →
  Lvs s id now (runW { s with T := T', l := s.l.set k (lvS x id).1 } i j now)
def LvOk (s : Wk) (id now : Int) : Prop := (∀ x ∈ s.l, id ∉ x.run ∧ id ∉ x.wait) ∨ ∃ (k : Nat) (x : Sd), s.l[k]? = some x ∧ (id ∈ x.run ∨ id ∈ x.wait) ∧ (id ∈ x.wait → id ∉ x.run) ∧ (x.run ++ x.wait).Nodup ∧
 ((lvS x id).2 = 0 ∨ ∃ (i : Nat) (j : Jb), (lvS x id).2 = (i : Int) + 1 ∧ s.js[i]? = some j ∧ j.id = (i : Int) + 1 ∧ jE 1 j now = 0)
theorem TimF.len {T T' : List Tm} {w : Int} (h : TimF T w T') : T'.length ≤ T.length := by
 rcases h with ⟨t, h1, -⟩ | ⟨-, rfl⟩
 · have := h1.length_eq; simp only [zzr] at this; omega
 · exact zzk _
section
variable {C : Kt} {s : Wk}
theorem zsk (hw : shJ s.js) (hl : s.js.length ≤ 1000) (hid : 0 ≤ id ∧ id ≤ 1099511627776) (hT : s.T.Pairwise fun a b => a.2.1 ≠ b.2.1) (hTl : (s.T.length : Int) < 256) (hn : s.next ≠ 1099511627776) (hL : LvOk s id now)
 (K : ∀ s', Lvs s id now s' → Q (.t []) (W9 C s')) : PRun Tryz.prog 102 (W8 C s) [.r 0 0, .i id, .i now] Q := by
 refine S102 (stops_S hid hT (by omega) fun T' hF => ?_)
 rw [zii]
 have hTl2 := hF.len
 have hlen : ((s.js.map za2).length : Int) = (s.js.length : Int) := by rw [zzc]
 rcases hL with hno | ⟨k, x, hk, hin, hwr, hnd, hnx⟩
 · refine leave0_S hno ?_
   rw [zft]
   intro k1 hk1
   exact cEq (fun h => absurd h (by decide)) fun _ => hk1 false (K _ (.no hF hno))
 · refine leave_S hk hin hwr hnd ?_
   rw [zft]
   intro k1 hk1
   refine cEq (fun _ => ?_) fun h => absurd rfl h
   rcases hnx with h0 | ⟨i, j, hi, hg, hji, he⟩
   · rw [h0]
     exact cIf (fun h => absurd h (by decide)) fun _ => hk1 false (K _ (.one hF hk hin h0))
   · have hlt := (zza.1 hg).1
     refine cIf (fun _ => ?_) fun h => absurd (show (lvS x id).2 > 0 by omega) h
     rw [hlen, decide_eq_true (show (lvS x id).2 ≤ (s.js.length : Int) by omega)]
     refine hk1 true ?_
     rw [hi, ← hji]
     refine runs_S (s := { s with T := T', l := s.l.set k (lvS x id).1 }) hw hl hg hji he (by show (T'.length : Int) < 256; omega) hn ?_
     rw [zii]
     exact K _ (.two hF hk hin hi hg hji he)
inductive Asks (s : Wk) (k : Nat) (x : Sd) (i : Nat) (j : Jb) (now : Int) : Wk → Prop
 | run : (x.run.length : Int) < x.n → Asks s k x i j now (runW { s with l := s.l.set k (zq4 x j.id) } i j now)
 | wait : ¬ (x.run.length : Int) < x.n → Asks s k x i j now { s with l := s.l.set k (zq4 x j.id) }
def jAt (j : Jb) : Int := 2 * (j.bay - 1) + (if j.kind = 1 then 0 else 1)
theorem asks_S {j : Jb} {x : Sd} (hw : shJ s.js) (hl : s.js.length ≤ 1000) (hg : s.js[i]? = some j) (hji : j.id = (i : Int) + 1) (he : jE 1 j now = 0) (hT : (s.T.length : Int) < 256) (hn : s.next ≠ 1099511627776)
 (hb : 1 ≤ j.bay ∧ j.bay ≤ 2) (hk : jAt j = (k : Int)) (hx : s.l[k]? = some x) (hno : ∀ x ∈ s.l, j.id ∉ x.run ∧ j.id ∉ x.wait) (hroom : (x.run.length : Int) < x.n ∨ (x.n ≠ 0 ∧ x.wait.length < 8))
 (K : ∀ s', Asks s k x i j now s' → Q (.t []) (W8 C s') ∧ Q (.t []) (W9 C s')) : PRun Tryz.prog 92 (W8 C s) [.r 0 0, jV j, .i now] Q := by
 have hlt := (zza.1 hg).1
 refine S92 (zvp ?_)
 rw [zaw]
 refine ask_S (k := k) (s := x) hb (by split <;> omega) hk hx (by omega) hno hroom ?_
 rw [post_BIA]
 refine cB (fun h => ?_) fun h => ?_
 · have h := of_decide_eq_true h
   refine runs_S (s := { s with l := s.l.set k (zq4 x j.id) }) hw hl hg hji he hT hn ?_
   rw [zii]
   exact (K _ (.run h)).2
 · have h := of_decide_eq_false h
   exact (K _ (.wait h)).1
theorem ends_S {j : Jb} (hw : shJ (s.js.set i j)) (hl : s.js.length ≤ 1000) (hi : i < s.js.length) (hji : j.id = (i : Int) + 1) (hT : s.T.Pairwise fun a b => a.2.1 ≠ b.2.1) (hTl : (s.T.length : Int) < 256) (hn : s.next ≠ 1099511627776)
 (hL : LvOk { s with js := s.js.set i j } j.id now) (K : ∀ s', Lvs { s with js := s.js.set i j } j.id now s' → Q (.t []) (W9 C { s' with Lg := znd s'.Lg (now, 1, j.id, j.st) })) :
 PRun Tryz.prog 110 (W8 C s) [.r 0 0, jV j, .i now] Q := by
 have hlen : ((s.js.map za2).length : Int) = (s.js.length : Int) := by rw [zzc]
 refine S110 ?_
 rw [hlen, w64 (x := j.id - 1) (by omega) (by omega)]
 refine ⟨by omega, by omega, ?_⟩
 have hset : (s.js.map za2).set (j.id - 1).toNat (za2 j) = (s.js.set i j).map za2 := by rw [z1n, show (j.id - 1).toNat = i by omega]
 have e1 : zzm (s.js.map za2) (zy8 (j.id - 1)) [.n j.id, .n j.kind, .n j.own, .n j.div, .n j.who, .n j.bay, .n j.draft, .n j.runs, .n j.copies, .n j.time, .n j.fee, .l 2 (j.needs.map eS), .n j.st, .n j.start, .n j.fin, .n j.left] = (s.js.set i j).map za2 := hset
 rw [e1]
 refine zsk (s := { s with js := s.js.set i j }) hw (by show (s.js.set i j).length ≤ 1000; rw [z0b]; exact hl) (by omega) hT hTl hn hL fun s' hs' => ?_
 rw [zgk]
 refine addM_S (x := (now, 1, j.id, j.st)) ?_
 rw [zws]
 exact K s' hs'
end
end
variable {y : Yb}
section
set_option maxRecDepth 1000000
variable {Q : V → Mem → Prop}
structure Od where
 who : Int
 own : Int
 div : Int
 bay : Int
 draft : Int
 kind : Int
 runs : Int
 copies : Int
abbrev oV (o : Od) : V := .a [.i o.who, .i o.own, .i o.div, .i o.bay, .i o.draft, .i o.kind, .i o.runs, .i o.copies]
abbrev oM (o : Od) (y : Yb) (d : Dr) (b : Bl) (j : Jb) (m : Int) : AB := .c [.i o.who, .i o.own, .i o.div, .i o.bay, .i o.draft, .i o.kind, .i o.runs, .i o.copies, .i y.place, .i y.make, .i y.lab, .i y.rate, .i d.id, .i d.own, .i d.div, .i d.place, .i d.blue, .i d.me, .i d.te, .i d.runs, .i d.busy, .i b.makes, .i b.per, .i b.time, .l 2 (b.needs.map eS), .i b.copy, .i b.study, .i b.most, .i j.id, .i j.kind, .i j.own, .i j.div, .i j.who, .i j.bay, .i j.draft, .i j.runs, .i j.copies, .i j.time, .i j.fee, .l 2 (j.needs.map eS), .i j.st, .i j.start, .i j.fin, .i j.left, .i m]
abbrev WO (C : Kt) (s : Wk) (o : Od) (y : Yb) (d : Dr) (b : Bl) (j : Jb) (m : Int) : Mem := [mkWk C 7, pC s.p 562, bK s.b, qO s.T 256 s.next, .o (Ob.of (zix s.Lg)), drB s.ds s.g, bO s.l, .w 48 16 (s.js.map za2), oM o y d b j m]
def at1 {α : Type} (l : List α) (n : Int) : Option α := if 1 ≤ n then l[(n - 1).toNat]? else none
theorem zam {l : List α} {x : α} (h : l[i]? = some x) (hn : n = (i : Int) + 1) : at1 l n = some x := by
 unfold at1
 rw [if_pos (by omega), show (n - 1).toNat = i by omega]
 exact h
theorem zb1 {l : List α} (h : n < 1 ∨ (l.length : Int) < n) : at1 l n = none := by
 unfold at1
 split
 · exact z0z (by omega)
 · rfl
theorem zcb {l : List α} {x : α} (h : at1 l n = some x) : ∃ i : Nat, l[i]? = some x ∧ n = (i : Int) + 1 := by
 unfold at1 at h
 split at h
 · exact ⟨(n - 1).toNat, h, by omega⟩
 · cases h
section
variable {C : Kt} {s : Wk}
theorem zyu (hl : C.bays.length ≤ 1000) (K : ∀ y e, (at1 C.bays n = some y ∧ e = 0) ∨ (at1 C.bays n = none ∧ e = 3) → Q (.t [yVb y, .i e]) []) : PRun Tryz.prog 180 [] [ctV C, .i n] Q :=
 bay_S hl (fun h => K yZ 3 (.inr ⟨zb1 h, rfl⟩)) fun i y hg hn => K y 0 (.inl ⟨zam hg hn, rfl⟩)
theorem zyr (hl : C.bl.length ≤ 1000) (K : ∀ b e, (at1 C.bl n = some b ∧ e = 0) ∨ (at1 C.bl n = none ∧ e = 3) → Q (.t [aB b, .i e]) []) : PRun Tryz.prog 182 [] [ctV C, .i n] Q :=
 blue_S hl (fun h => K bZ 3 (.inr ⟨zb1 h, rfl⟩)) fun i y hg hn => K y 0 (.inl ⟨zam hg hn, rfl⟩)
theorem get1_S {g : Int} (hd : DNum ds) (hl : ds.length ≤ 100000) (K : ∀ d e, (at1 ds id = some d ∧ e = 0) ∨ (at1 ds id = none ∧ e = 3) → Q (.t [rV d, .i e]) [drB ds g]) : PRun Tryz.prog 181 [drB ds g] [.r 0 0, .i id] Q :=
 zx7 hd hl (fun h => K rZ 3 (.inr ⟨zb1 h, rfl⟩)) fun i y hg hn => K y 0 (.inl ⟨zam hg hn, rfl⟩)
def zff (C : Kt) (s : Wk) (now : Int) (o : Od) : Int :=
 if inJ now 0 1099511627776 = false ∨ inJ o.kind 1 4 = false ∨ (o.kind ≠ 4 ∧ o.copies ≠ 0) then 1 else
 match at1 C.bays o.bay, at1 s.ds o.draft with
 | some y, some d => (match at1 C.bl d.blue with
   | some b => if (zau (oK o.who) s.p).isSome = false ∨ o.who < 1 then 3 else if d.own ≠ o.own ∨ d.div ≠ o.div then 8 else if d.place ≠ y.place then 9 else 0
   | none => 3)
 | _, _ => 3
structure FindF (C : Kt) (s : Wk) (now : Int) (o : Od) (y : Yb) (d : Dr) (b : Bl) : Prop where
 t : 0 ≤ now ∧ now ≤ 1099511627776
 kind : 1 ≤ o.kind ∧ o.kind ≤ 4
 cop : o.kind ≠ 4 → o.copies = 0
 bay : at1 C.bays o.bay = some y
 dr : at1 s.ds o.draft = some d
 bl : at1 C.bl d.blue = some b
 who : 1 ≤ o.who
 has : (zau (oK o.who) s.p).isSome = true
 own : d.own = o.own
 div : d.div = o.div
 place : d.place = y.place
theorem FindF.zero {o : Od} (F : FindF C s now o y d b) : zff C s now o = 0 := by
 unfold zff
 rw [if_neg, F.bay, F.dr]
 · simp only
   rw [F.bl]
   simp only
   have h1 := F.who; have h2 := F.own; have h3 := F.div; have h4 := F.place
   rw [F.has, if_neg (by simp; omega), if_neg (by omega), if_neg (by omega)]
 · rintro (h | h | ⟨h, h'⟩)
   · rw [inJ_iff.2 F.t] at h; cases h
   · rw [inJ_iff.2 F.kind] at h; cases h
   · exact h' (F.cop h)
theorem FindF.of {o : Od} (h : zff C s now o = 0) : ∃ y d b, FindF C s now o y d b := by
 unfold zff at h
 split at h
 · cases h
 · rename_i h1
   split at h
   · rename_i y d hy hd
     split at h
     · rename_i b hb
       split at h
       · cases h
       · rename_i h2
         split at h
         · cases h
         · rename_i h3
           split at h
           · cases h
           · rename_i h4
             simp only [not_or, Bool.not_eq_false] at h1 h2 h3
             exact ⟨y, d, b, inJ_iff.1 h1.1, inJ_iff.1 h1.2.1, fun hk => by omega, hy, hd, hb, by omega, h2.1, by omega, by omega, by omega⟩
     · cases h
   · cases h
theorem zrd {o : Od} {y0 : Yb} {d0 : Dr} {b0 : Bl} {j : Jb} {m0 : Int} (hp : PInv s.p 562) (hpl : s.p.length ≤ 800000) (hd : DNum s.ds) (hdl : s.ds.length ≤ 100000) (h1 : C.bays.length ≤ 1000) (h2 : C.bl.length ≤ 1000)
 (k1 : ∀ y d b m, zff C s now o ≠ 0 → Q (.i (zff C s now o)) (WO C s o y d b j m)) (k2 : ∀ y d b, FindF C s now o y d b → Q (.i 0) (WO C s o y d b j (zan (oK o.who) s.p))) :
 PRun Tryz.prog 84 (WO C s o y0 d0 b0 j m0) [.r 0 0, .i now, .r 8 0] Q := by
 have one : ∀ {y d b m}, (inJ now 0 1099511627776 = false ∨ inJ o.kind 1 4 = false ∨ (o.kind ≠ 4 ∧ o.copies ≠ 0)) → Q (.i 1) (WO C s o y d b j m) := fun {y d b m} h => by
  have := k1 y d b m
  have e : zff C s now o = 1 := by unfold zff; rw [if_pos h]
  rw [e] at this
  exact this (by decide)
 refine S84 ?_
 intro kk hkk
 have main : inJ now 0 1099511627776 = true → inJ o.kind 1 4 = true → (o.kind ≠ 4 → o.copies = 0) → kk := fun ht hk hc => by
  have nf : ¬ (inJ now 0 1099511627776 = false ∨ inJ o.kind 1 4 = false ∨ (o.kind ≠ 4 ∧ o.copies ≠ 0)) := by
   rw [ht, hk]; rintro (h | h | ⟨h, h'⟩)
   · cases h
   · cases h
   · exact h' (hc h)
  have E : ∀ {y d b m} (e : Int), zff C s now o = e → e ≠ 0 → Q (.i e) (WO C s o y d b j m) := fun {y d b m} e h h0 => by
   have := k1 y d b m
   rw [h] at this
   exact this h0
  unfold zff at E
  rw [if_neg nf] at E
  refine hkk ?_
  refine zyu h1 fun y ey hy => ?_
  rw [zma]
  refine get1_S hd hdl fun d ed hdd => ?_
  rw [zdb]
  refine zyr h2 fun b eb hb => ?_
  rw [zwl]
  refine ziu hp.srt (by omega) ?_
  rw [post_IIp]
  rcases hy with ⟨hy, rfl⟩ | ⟨hy, rfl⟩
  rotate_left
  · exact cNe (fun _ => E 3 (by rw [hy]) (by decide)) fun h => absurd h (by decide)
  refine cNe (fun h => absurd rfl h) fun _ => ?_
  rcases hdd with ⟨hdd, rfl⟩ | ⟨hdd, rfl⟩
  rotate_left
  · exact cNe (fun _ => E 3 (by rw [hy, hdd]) (by decide)) fun h => absurd h (by decide)
  refine cNe (fun h => absurd rfl h) fun _ => ?_
  rw [hy, hdd] at E
  simp only at E
  rcases hb with ⟨hb, rfl⟩ | ⟨hb, rfl⟩
  rotate_left
  · exact cNe (fun _ => E 3 (by rw [hb]) (by decide)) fun h => absurd h (by decide)
  refine cNe (fun h => absurd rfl h) fun _ => ?_
  rw [hb] at E
  simp only at E
  by_cases hh : (zau (oK o.who) s.p).isSome = true
  rotate_left
  · rw [if_neg hh]
    exact cNe (fun _ => E 3 (by rw [if_pos (.inl (by simpa using hh))]) (by decide)) fun h => absurd h (by decide)
  rw [if_pos hh]
  refine cNe (fun h => absurd rfl h) fun _ => cIf (fun h => E 3 (by rw [if_pos (.inr h)]) (by decide)) fun hw => ?_
  rw [if_neg (by rw [hh]; simpa using hw)] at E
  refine cNe (fun h => E 8 (by rw [if_pos (.inl h)]) (by decide)) fun ho => cNe (fun h => E 8 (by rw [if_pos (.inr h)]) (by decide)) fun hv => ?_
  rw [if_neg (by omega)] at E
  refine cNe (fun h => E 9 (by rw [if_pos h]) (by decide)) fun hpl => ?_
  exact k2 y d b ⟨inJ_iff.1 ht, inJ_iff.1 hk, hc, hy, hdd, hb, by omega, hh, ho, hv, hpl⟩
 refine zng (fun h => one (.inl h)) fun ht => cIf (fun h => one (.inr (.inl ?_))) fun a1 => cIf (fun h => one (.inr (.inl ?_))) fun a2 => cNe (fun a3 => cNe (fun a4 => one (.inr (.inr ⟨a3, a4⟩))) fun a4 => ?_) fun a3 => ?_
 · rw [z3k]; intro hh; have := inJ_iff.1 hh; omega
 · rw [z3k]; intro hh; have := inJ_iff.1 hh; omega
 · exact main ht (inJ_iff.2 ⟨by omega, by omega⟩) fun _ => a4
 · exact main ht (inJ_iff.2 ⟨by omega, by omega⟩) fun h => absurd a3 h
theorem zr0 {F : List (List U) → Ob → Prop} : post [.L 2] [.A] F (.l 2 r) [.o X] = F r X := rfl
def zjv (who : Int) (js : List Jb) : Int := ((js.filter fun j => j.who == who && ze2 j).length : Int)
theorem zts (who : Int) (js : List Jb) (j : Jb) : zjv who (js ++ [j]) = zjv who js + (if j.who = who ∧ ze2 j = true then 1 else 0) := by
 unfold zjv
 rw [z2u, zzx, List.filter_cons, List.filter_nil]
 by_cases h : j.who = who ∧ ze2 j = true
 · rw [if_pos h, if_pos (by simp [h.1, h.2])]; simp
 · rw [if_neg h, if_neg (by simpa using h)]; simp
def zcp (x : Sd) : Bool := decide (0 < x.n - (x.run.length : Int)) || (decide (0 < x.run.length) && decide (x.wait.length < 8))
def zuc (s : Wk) (o : Od) (x : Sd) (d : Dr) : Int := if 64 ≤ s.js.length then 4 else if 6 ≤ zjv o.who s.js ∨ zcp x = false then 10 else if d.busy ≠ 0 then 12 else 0
theorem wfits_S {o : Od} {j : Jb} {m : Int} {x : Sd} (hw : shJ s.js) (hl : s.js.length ≤ 1000) (hb : 1 ≤ o.bay ∧ o.bay ≤ 2) (hk : 2 * (o.bay - 1) + (if o.kind = 1 then 0 else 1) = (k : Int)) (hx : s.l[k]? = some x)
 (hxl : x.run.length ≤ 1000 ∧ x.wait.length ≤ 1000) (K : Q (.i (zuc s o x d)) (WO C s o y d b j m)) : PRun Tryz.prog 85 (WO C s o y d b j m) [.r 0 0, .r 8 0] Q := by
 have hlen : ((s.js.map za2).length : Int) = (s.js.length : Int) := by rw [zzc]
 have ob : ∀ i : Nat, i ≤ s.js.length → 0 ≤ zjv o.who (s.js.take i) ∧ zjv o.who (s.js.take i) ≤ i := fun i hi => by
  unfold zjv
  have := z0n (fun j : Jb => j.who == o.who && ze2 j) (s.js.take i)
  rw [zz9] at this
  omega
 refine S85 ⟨fun c x => ∃ i : Nat, x = (i : Int) ∧ i ≤ s.js.length ∧ c = zjv o.who (s.js.take i), fun _ x => (s.js.length - x).toNat, ⟨0, rfl, zz3 _, rfl⟩, ?_⟩
 rintro _ _ ⟨i, rfl, hi, rfl⟩
 rw [hlen]
 refine cIf (fun hc => ?_) fun hc => ?_
 · have hlt : i < s.js.length := by omega
   have hg := zzb hlt
   have e1 : zy5 .i64 ((i : Int) + 1) = ((i + 1 : Nat) : Int) := by rw [w64 (by omega) (by omega)]; omega
   refine ⟨by omega, by omega, ?_⟩
   rw [zah (r := za2 s.js[i]) (by omega) (by rw [zzs, zzg, hg]; rfl)]
   refine dJx ?_
   have hs1 := zts o.who (s.js.take i) s.js[i]
   rw [← z18 hlt] at hs1
   have hbd := ob i hi
   rw [e1]
   refine cEq (fun hq => jopen_S (j := s.js[i]) ?_) fun hq => ?_
   · rw [zbk]
     refine cB (fun ho => ?_) fun ho => ?_
     · rw [if_pos ⟨hq, ho⟩] at hs1
       rw [w64 (x := zjv o.who (List.take i s.js) + 1) (by omega) (by omega)]
       exact ⟨⟨i + 1, by first | trivial | rfl, by omega, hs1.symm⟩, by dsimp only; omega⟩
     · rw [if_neg (by simp [ho])] at hs1
       exact ⟨⟨i + 1, by first | trivial | rfl, by omega, by omega⟩, by dsimp only; omega⟩
   · rw [if_neg (by simp [hq])] at hs1
     exact ⟨⟨i + 1, by first | trivial | rfl, by omega, by omega⟩, by dsimp only; omega⟩
 · have : i = s.js.length := by omega
   subst this
   rw [z0m]
   unfold zuc at K
   refine cIf (fun h => ?_) fun h => ?_
   · rw [if_pos (by omega)] at K; exact K
   rw [if_neg (by omega)] at K
   refine cIf (fun h => ?_) fun h2 => zvp ?_
   · rw [if_pos (.inl h)] at K; exact K
   rw [zaw]
   refine free_S (k := k) (s := x) hb (by split <;> omega) hk hx ?_
   rw [zft]
   refine cNe (fun h => absurd rfl h) fun _ => ?_
   have busy : zcp x = true → (bif d.busy != 0 then Q (.i 12) (WO C s o y d b j m) else Q (.i 0) (WO C s o y d b j m) : Prop) := fun hr => by
    rw [if_neg (by rw [hr]; simp; omega)] at K
    refine cNe (fun h => ?_) fun h => ?_
    · rw [if_pos h] at K; exact K
    · rw [if_neg (by omega)] at K; exact K
   have full : zcp x = false → Q (.i 10) (WO C s o y d b j m) := fun hr => by
    rw [if_pos (.inr hr)] at K; exact K
   refine cIf (fun h => ?_) fun h => zqh ?_
   · exact busy (by unfold zcp; rw [decide_eq_true (by omega)]; rfl)
   · rw [zr0]
     rw [w64 (x := o.bay - 1) (by omega) (by omega), w64 (x := 2 * (o.bay - 1)) (by omega) (by omega), w64 (x := 2 * (o.bay - 1) + _) (by split <;> omega) (by split <;> omega), hk]
     rw [zah (r := lnR x) (by omega) (by rw [zzs, zzg, hx]; rfl)]
     simp only [lnR, ug0, ugs, dL_l]
     have hr1 : ((x.run.map eI).length : Int) = (x.run.length : Int) := by rw [zzc]
     have hr2 : ((x.wait.map eI).length : Int) = (x.wait.length : Int) := by rw [zzc]
     rw [hr1, hr2]
     refine cIf (fun h3 => ?_) fun h3 => ?_
     · refine zfn (cIf (fun h4 => ?_) fun h4 => ?_)
       · exact busy (by unfold zcp; rw [decide_eq_true (show 0 < x.run.length by omega), decide_eq_true (show x.wait.length < 8 by omega)]; simp)
       · exact full (by unfold zcp; rw [decide_eq_false (by omega), decide_eq_false (show ¬ x.wait.length < 8 by omega)]; simp)
     · exact full (by unfold zcp; rw [decide_eq_false (by omega), decide_eq_false (show ¬ 0 < x.run.length by omega)]; simp)
end
end
variable {o : Od}
section
set_option maxRecDepth 1000000
variable {Q : V → Mem → Prop}
noncomputable def zbc (b : Bl) (d : Dr) (o : Od) : Int × Int :=
 if o.kind = 1 then ztk b d.te o.runs else if o.kind = 2 then ze5 b d.me o.runs else if o.kind = 3 then ze5 b d.te o.runs else zug b o.copies o.runs
def mx1 (t : Int) : Int := if t > 1 then t else 1
noncomputable def zcj (b : Bl) (d : Dr) (o : Od) : List Stk × Int := if o.kind = 1 then zir b d.me o.runs else ([], 0)
def zcd (d : Dr) (o : Od) : Prop := o.runs < 1 ∨ 1000 < o.runs ∨ (o.kind ≠ 1 ∧ d.runs ≠ -1) ∨ (o.kind = 1 ∧ d.runs ≠ -1 ∧ d.runs < o.runs)
instance (d : Dr) (o : Od) : Decidable (zcd d o) := by unfold zcd; infer_instance
noncomputable def zc1 (b : Bl) (d : Dr) (o : Od) : Int := if zcd d o then 11 else if (zcj b d o).2 ≠ 0 then (zcj b d o).2 else if (zbc b d o).2 ≠ 0 then 11 else 0
noncomputable def zea (y : Yb) (b : Bl) (d : Dr) (o : Od) (j : Jb) : Jb := { j with needs := (zcj b d o).1, time := mx1 (zbc b d o).1, left := mx1 (zbc b d o).1, fee := upI (mx1 (zbc b d o).1 * y.rate) 10000 }
theorem zr2 (h : (zbc b d o).2 = 0) : 0 ≤ (zbc b d o).1 ∧ (zbc b d o).1 ≤ 1099511627775 := by
 unfold zbc at h ⊢
 split at h
 · rename_i hk
   rw [if_pos hk]
   unfold ztk at h ⊢
   split at h
   · rename_i hh
     rw [if_pos hh]
     obtain ⟨⟨h1, h2⟩, h3⟩ := hh
     have ok := (blueE_ok.1 h1).time
     rw [zgu] at h2 h3
     obtain ⟨t0, t1, t2, t3⟩ := zvf ok h3 h2
     have := upI_bd t2 (b := 100) (by decide)
     omega
   · cases h
 · rename_i hk
   rw [if_neg hk]
   have st : ∀ l, (ze5 b l o.runs).2 = 0 → 0 ≤ (ze5 b l o.runs).1 ∧ (ze5 b l o.runs).1 ≤ 1099511627775 := fun l hl => by
    unfold ze5 at hl ⊢
    split at hl
    · rename_i hh
      rw [if_pos hh]
      obtain ⟨h1, h2, h3⟩ := hh
      have ok := (blueE_ok.1 h1).study
      rw [inJ_iff] at h2 h3
      obtain ⟨-, -, -, p4, p5⟩ := zrk ok h2 h3
      simp only
      omega
    · cases hl
   split at h
   · rename_i hk2; rw [if_pos hk2]; exact st _ h
   · rename_i hk2
     rw [if_neg hk2]
     split at h
     · rename_i hk3; rw [if_pos hk3]; exact st _ h
     · rename_i hk3
       rw [if_neg hk3]
       unfold zug at h ⊢
       split at h
       · rename_i hh
         rw [if_pos hh]
         obtain ⟨h1, h2, h3⟩ := hh
         have ok := blueE_ok.1 h1
         have o1 := ok.copy; have o2 := ok.most
         rw [inJ_iff] at h2 h3
         have a1 := zed (x := b.copy) (y := o.copies) (X := 1048576) (Y := 10) (by omega) (by omega) (by omega) (by omega)
         have a2 := zed (x := b.copy * o.copies) (y := o.runs) (X := 10485760) (Y := 1000) (by omega) (by omega) (by omega) (by omega)
         simp only
         omega
       · cases h
theorem mx1_bd {t : Int} (h : 0 ≤ t ∧ t ≤ 1099511627775) : 1 ≤ mx1 t ∧ mx1 t ≤ 1099511627775 := by
 unfold mx1
 split <;> omega
theorem post_L2I : post [.L 2, .I] [] F (.t [.l 2 r, .i n]) [] = F r n := rfl
section
variable {o : Od} {y : Yb} {d : Dr} {b : Bl} {j : Jb} {m : Int}
theorem zw0 (hb : b.Rg) (hbq : ∀ s ∈ b.needs, s.2 ≤ 1099511627776) (hk : 1 ≤ o.kind ∧ o.kind ≤ 4) (hme : 0 ≤ d.me ∧ d.me ≤ 10) (hte : 0 ≤ d.te ∧ d.te ≤ 10) (hr : 0 ≤ y.rate ∧ y.rate ≤ 10000) (hn : j.needs = [])
 (k1 : ∀ j', zc1 b d o ≠ 0 → Q (.i (zc1 b d o)) [oM o y d b j' m]) (k2 : zc1 b d o = 0 → Q (.i 0) [oM o y d b (zea y b d o j) m]) :
 PRun Tryz.prog 86 [oM o y d b j m] [.r 0 0] Q := by
 refine S86 ?_
 intro kk hkk
 have bad : zcd d o → ∀ j', Q (.i 11) [oM o y d b j' m] := fun h j' => by
  have := k1 j'
  have e : zc1 b d o = 11 := by unfold zc1; rw [if_pos h]
  rw [e] at this
  exact this (by decide)
 have main : ¬ zcd d o → kk := fun hnb => by
  have E1 : (zcj b d o).2 ≠ 0 → ∀ j', Q (.i (zcj b d o).2) [oM o y d b j' m] := fun h j' => by
   have := k1 j'
   have e : zc1 b d o = (zcj b d o).2 := by unfold zc1; rw [if_neg hnb, if_pos h]
   rw [e] at this
   exact this h
  have E2 : (zcj b d o).2 = 0 → (zbc b d o).2 ≠ 0 → ∀ j', Q (.i 11) [oM o y d b j' m] := fun h h2 j' => by
   have := k1 j'
   have e : zc1 b d o = 11 := by unfold zc1; rw [if_neg hnb, if_neg (by simpa using h), if_pos h2]
   rw [e] at this
   exact this (by decide)
  refine hkk ?_
  intro kt hkt
  -- behind the time
  have fin : ∀ (nd : List Stk), nd = (zcj b d o).1 → (zcj b d o).2 = 0 → kt (zbc b d o).2 o.who o.own o.div o.bay o.draft o.kind o.runs o.copies y.place y.make y.lab y.rate d.id d.own d.div d.place d.blue d.me d.te d.runs d.busy b.makes b.per b.time (b.needs.map eS) b.copy b.study b.most j.id j.kind j.own j.div j.who j.bay j.draft j.runs j.copies (zbc b d o).1 j.fee (nd.map eS) j.st j.start j.fin j.left m := fun nd hnd h0 => by
   refine hkt _ _ _ _ _ _ _ _ _ _ _ _ _ _ _ _ _ _ _ _ _ _ _ _ _ _ _ _ _ _ _ _ _ _ _ _ _ _ _ _ _ _ _ _ _ _ ?_
   refine cNe (fun h => E2 h0 h { j with needs := nd, time := (zbc b d o).1 }) fun h => ?_
   have hbd := zr2 h
   have hm := mx1_bd hbd
   have em : (if (zbc b d o).1 > 1 then (zbc b d o).1 else 1) = mx1 (zbc b d o).1 := rfl
   rw [em]
   refine feeBay_S ?_
   have hf : feeY y.rate (mx1 (zbc b d o).1) = (upI (mx1 (zbc b d o).1 * y.rate) 10000, 0) := by
    unfold feeY
    rw [if_pos ⟨inJ_iff.2 hr, inJ_iff.2 ⟨by omega, by omega⟩⟩]
   rw [zb5, hf]
   have := k2 (by unfold zc1; rw [if_neg hnb, if_neg (by simpa using h0), if_neg (by simpa using h)])
   unfold zea at this
   rw [← hnd] at this
   exact this
  refine cEq (fun h1 => ?_) fun h1 => ?_
  · have en : zcj b d o = zir b d.me o.runs := by unfold zcj; rw [if_pos h1]
    have et : zbc b d o = ztk b d.te o.runs := by unfold zbc; rw [if_pos h1]
    refine pNeeds_S hb hbq ?_
    rw [← en, post_L2I]
    refine cNe (fun h => E1 h { j with needs := (zcj b d o).1 }) fun h => pTime_S hb ?_
    rw [← et, zb5]
    exact fin _ rfl h
  · have en : zcj b d o = ([], 0) := by unfold zcj; rw [if_neg h1]
    have fin' := fin [] (by rw [en]) (by rw [en])
    have fin2 : kt (zbc b d o).2 o.who o.own o.div o.bay o.draft o.kind o.runs o.copies y.place y.make y.lab y.rate d.id d.own d.div d.place d.blue d.me d.te d.runs d.busy b.makes b.per b.time (b.needs.map eS) b.copy b.study b.most j.id j.kind j.own j.div j.who j.bay j.draft j.runs j.copies (zbc b d o).1 j.fee (j.needs.map eS) j.st j.start j.fin j.left m := by rw [hn]; exact fin'
    clear fin fin'
    refine cEq (fun h2 => ?_) fun h2 => cEq (fun h3 => ?_) fun h3 => cEq (fun h4 => ?_) fun h4 => by omega
    · have et : zbc b d o = ze5 b d.me o.runs := by unfold zbc; rw [if_neg h1, if_pos h2]
      refine zvh hb hme ?_
      rw [← et, zb5]
      exact fin2
    · have et : zbc b d o = ze5 b d.te o.runs := by unfold zbc; rw [if_neg h1, if_neg h2, if_pos h3]
      refine zvh hb hte ?_
      rw [← et, zb5]
      exact fin2
    · have et : zbc b d o = zug b o.copies o.runs := by unfold zbc; rw [if_neg h1, if_neg h2, if_neg h3]
      refine copy_S hb ?_
      rw [← et, zb5]
      exact fin2
 refine cIf (fun h => bad (.inl h) j) fun a1 => cIf (fun h => bad (.inr (.inl h)) j) fun a2 => cNe (fun a3 => zfn (cEq (fun a4 => ?_) fun a4 => bad (.inr (.inr (.inl ⟨a3, a4⟩))) j)) fun a3 => ?_
 · have := main (by unfold zcd; omega)
   exact cEq (fun h => absurd h a3) fun _ => this
 · refine cEq (fun _ => zfn (cEq (fun a4 => main (by unfold zcd; omega)) fun a4 => cIf (fun a5 => bad (.inr (.inr (.inr ⟨a3, a4, a5⟩))) j) fun a5 => main (by unfold zcd; omega))) fun h => absurd a3 h
end
end
section
set_option maxRecDepth 1000000
variable {Q : V → Mem → Prop}
structure KtOk (C : Kt) : Prop where
 bays : C.bays.length = 2
 bay : ∀ y ∈ C.bays, (1 ≤ y.place ∧ y.place ≤ 8) ∧ (0 ≤ y.rate ∧ y.rate ≤ 10000)
 bl : C.bl.length ≤ 1000
 rg : ∀ b ∈ C.bl, b.Rg
 q : ∀ b ∈ C.bl, ∀ s ∈ b.needs, s.2 ≤ 1099511627776
def zjx (n : Nat) (o : Od) : Jb := ⟨(n : Int) + 1, o.kind, o.own, o.div, o.who, o.bay, o.draft, o.runs, o.copies, 0, 0, [], 1, 0, 0, 0⟩
def zbm (j : Jb) : Int := if j.kind = 1 then j.runs else 0
structure InsF (C : Kt) (s : Wk) (now : Int) (o : Od) (y : Yb) (d : Dr) (b : Bl) (k : Nat) (x : Sd) (j : Jb) (p' b' : Tb) : Prop where
 find : FindF C s now o y d b
 at1 : jAt j = (k : Int)
 side : s.l[k]? = some x
 len : s.js.length < 64
 room : zcp x = true
 busy : d.busy = 0
 plan : zc1 b d o = 0
 job : j = zea y b d o (zjx s.js.length o)
 fee : j.fee ≤ zan (oK o.who) s.p
 lie : ∀ t ∈ j.needs, t.2 ≤ zan (bin ⟨o.own, o.div, y.place, 1⟩ t.1) s.b
 pur : p' = movP o.who 0 j.fee s.p
 pinv : PInv p' 562
 plen : p'.length = s.p.length
 bins : ∃ l1, zb9 ⟨o.own, o.div, y.place, 1⟩ j.needs s.b = some l1 ∧ BInv l1 ∧ b' = zih (vK j.id y.place) j.needs l1
 binv : BInv b'
 blen : b'.length ≤ s.b.length + 16
 ok : jOk j = true
 fit : zuc s o x d = 0
theorem findE_nn (C : Kt) (s : Wk) (now : Int) (o : Od) : 0 ≤ zff C s now o := by
 unfold zff
 split
 · decide
 · split
   · split
     · split
       · decide
       · split
         · decide
         · split <;> decide
     · decide
   · decide
theorem fitE_nn (s : Wk) (o : Od) (x : Sd) (d : Dr) : 0 ≤ zuc s o x d := by
 unfold zuc
 repeat' split
 all_goals decide
theorem planE_nn (b : Bl) (d : Dr) (o : Od) : 0 ≤ zc1 b d o := by
 unfold zc1
 split
 · decide
 · split
   · unfold zcj
     split
     · unfold zir
       repeat' split
       all_goals first | exact zzw 0 | decide
     · exact zzw 0
   · split <;> decide
theorem zwv (h : 0 ≤ e) (h0 : e ≠ 0) : ∃ k : Nat, e = Int.ofNat (k + 1) := by
 obtain ⟨n, rfl⟩ := z1f h
 cases n with
 | zero => exact absurd rfl h0
 | succ k => exact ⟨k, rfl⟩
theorem zmm (h : (zcj b d o).2 = 0) : zfg (zcj b d o).1 32 = 0 ∧ (o.kind = 1 ∨ (zcj b d o).1 = []) := by
 unfold zcj at h ⊢
 split at h
 · rename_i hk
   rw [if_pos hk]
   refine ⟨?_, .inl hk⟩
   unfold zir at h ⊢
   split at h
   · rename_i hh
     rw [if_pos hh]
     split at h
     · cases h
     · rename_i hov
       rw [if_neg hov]
       obtain ⟨⟨h1, h2⟩, h3⟩ := hh
       rw [zgu] at h2 h3
       have hc := (blueE_ok.1 h1).needs
       refine chkE_iff.2 ⟨?_, ?_, ?_⟩
       · show (zj0 b.needs o.runs d.me).length ≤ 8
         unfold zj0
         rw [zzc]
         exact hc.len
       · show (zj0 b.needs o.runs d.me).Pairwise _
         unfold zj0
         rw [z19]
         exact hc.rise
       · intro t ht
         have ht : t ∈ zj0 b.needs o.runs d.me := ht
         unfold zj0 at ht
         obtain ⟨q, hq, rfl⟩ := zz6.1 ht
         have he := hc.el q hq
         refine ⟨he.1, he.2.1, ?_, ?_⟩
         · show 1 ≤ zjy q.2 o.runs d.me
           unfold zjy
           have : o.runs ≤ max o.runs (upI (q.2 * (o.runs * (100 - d.me))) 100) := Int.le_max_left _ _
           omega
         · show zjy q.2 o.runs d.me ≤ zjn
           rcases Int.lt_or_le zjn (zjy q.2 o.runs d.me) with h | h
           · exact absurd (List.any_eq_true.2 ⟨q, hq, decide_eq_true h⟩) hov
           · exact h
   · cases h
 · rename_i hk
   rw [if_neg hk]
   exact ⟨by decide, .inr rfl⟩
theorem cop_ok (hk : o.kind = 4) (h : (zbc b d o).2 = 0) : inJ o.copies 1 10 = true := by
 unfold zbc at h
 rw [if_neg (by omega), if_neg (by omega), if_neg (by omega)] at h
 unfold zug at h
 split at h
 · rename_i hh; exact hh.2.1
 · cases h
theorem zcn (h : zc1 b d o = 0) : ¬ zcd d o ∧ (zcj b d o).2 = 0 ∧ (zbc b d o).2 = 0 := by
 unfold zc1 at h
 split at h
 · cases h
 · rename_i h1
   split at h
   · rename_i h2; exact absurd h h2
   · rename_i h2
     split at h
     · cases h
     · rename_i h3
       exact ⟨h1, by simpa using h2, by simpa using h3⟩
theorem zoa {j : Jb} (hr : 0 ≤ y.rate ∧ y.rate ≤ 10000) (h : zc1 b d o = 0) : 0 ≤ (zea y b d o j).fee ∧ (zea y b d o j).fee ≤ 1099511627775 ∧ 1 ≤ (zea y b d o j).time ∧ (zea y b d o j).time ≤ 1099511627775 := by
 have hm := mx1_bd (zr2 (zcn h).2.2)
 have hf := feeY_bd hr (time := mx1 (zbc b d o).1) (by omega)
 show 0 ≤ upI (mx1 (zbc b d o).1 * y.rate) 10000 ∧ upI (mx1 (zbc b d o).1 * y.rate) 10000 ≤ 1099511627775 ∧ 1 ≤ mx1 (zbc b d o).1 ∧ mx1 (zbc b d o).1 ≤ 1099511627775
 omega
theorem jOk_new {C : Kt} {s : Wk} (hF : FindF C s now o y d b) (hC : KtOk C) (hp : PInv s.p 562) (hd : isD d = true) (hown : 1 ≤ d.own) (hl : s.js.length < 64) (hdl : s.ds.length ≤ 100000) (h : zc1 b d o = 0) : jOk (zea y b d o (zjx s.js.length o)) = true := by
 obtain ⟨hr, hN, hT⟩ := zcn h
 have hy := hC.bay y (by obtain ⟨i, hi, -⟩ := zcb hF.bay; exact zzf hi)
 have hfee := zoa (j := zjx s.js.length o) hy.2 h
 have hn := zmm hN
 have hdd := zf2 hd
 obtain ⟨ib, hib, hbn⟩ := zcb hF.bay
 obtain ⟨id, hid, hdn⟩ := zcb hF.dr
 have hbl := (zza.1 hib).1
 have hdl2 := (zza.1 hid).1
 have hbs := hC.bays
 have hwho : o.who ≤ 1099511627776 := by
  obtain ⟨v, hv⟩ := z2x.1 hF.has
  have := hp.key _ (zeo hv)
  have h2 := this.2.2.1
  simp only [oK] at h2
  exact h2
 have ho := hF.own; have hdv := hF.div; have hk := hF.kind; have hw := hF.who
 unfold zcd at hr
 unfold jOk
 rw [zy9]
 constructor
 · unfold zpk jNum jCop zqm
   simp only [zy9, inJ_iff]
   show _ ∧ _ ∧ _ ∧ _ ∧ _ ∧ _ ∧ _ ∧ _ ∧ _
   refine ⟨?_, ?_, ?_, ?_, ?_, ?_, ⟨hk, ?_, ?_, ?_⟩, ?_, ?_⟩
   · show 1 ≤ (s.js.length : Int) + 1 ∧ (s.js.length : Int) + 1 ≤ 1099511627776; omega
   · show 1 ≤ o.own ∧ o.own ≤ 1099511627776; omega
   · exact ⟨hw, hwho⟩
   · show 1 ≤ o.bay ∧ o.bay ≤ 1099511627776; omega
   · show 1 ≤ o.draft ∧ o.draft ≤ 1099511627776; omega
   · omega
   · show 0 ≤ o.div ∧ o.div ≤ 4; omega
   · show 1 ≤ o.runs ∧ o.runs ≤ 1000; omega
   · omega
   · show (if o.kind = 4 then inJ o.copies 1 10 else o.copies == 0) = true
     split
     · rename_i h4; exact cop_ok h4 hT
     · rename_i h4; rw [hF.cop h4]; rfl
   · show (zfg (zcj b d o).1 32 == 0) = true ∧ (o.kind == 1 || ((zcj b d o).1.length : Int) == 0) = true
     rw [hn.1]
     refine ⟨rfl, ?_⟩
     rcases hn.2 with h1 | h1
     · rw [h1]; rfl
     · rw [h1]; simp
 · have h3 := hfee.2.2
   unfold jSt
   rw [if_pos (.inl rfl), zy9]
   refine ⟨rfl, inJ_iff.2 ?_⟩
   show 1 ≤ (zea y b d o (zjx s.js.length o)).time ∧ _ ≤ (zea y b d o (zjx s.js.length o)).time
   exact ⟨h3.1, zzw _⟩
end
section
set_option maxRecDepth 1000000
variable {Q : V → Mem → Prop}
theorem zku {A : Prop} (h : A) : dup2 A := ⟨h, h⟩
theorem isB_of {a b c : Int} (h1 : 0 ≤ a ∧ a ≤ 1099511627776) (h2 : 0 ≤ b ∧ b ≤ 4) (h3 : 1 ≤ c ∧ c ≤ 8) : isB (bin ⟨a, b, c, 1⟩ 1) = true := by
 simp only [isB, zy9, decide_eq_true_eq]
 omega
section
variable {C : Kt} {s : Wk}
theorem zmc {F : Int → List (List U) → Int → Prop} {r : Tb} : post [.I] [.c [.l 5, .i .i64]] F (.i e) [pC r n] = F e (r.map eT) n := rfl
theorem zdt {F : Int → List (List U) → Int → Prop} {g : Int} : post [.I] [.c [.l 13, .i .i64]] F (.i e) [drB ds g] = F e (ds.map eD) g := rfl
abbrev insW (s : Wk) (i : Nat) (d : Dr) (j : Jb) (p' b' : Tb) : Wk := { s with p := p', b := b', ds := s.ds.set i (zun d ((s.js.length : Int) + 1) (zbm j)), js := s.js ++ [j] }
noncomputable def insE (C : Kt) (s : Wk) (now : Int) (o : Od) : Int :=
 if zff C s now o ≠ 0 then zff C s now o else
 match at1 C.bays o.bay, at1 s.ds o.draft with
 | some y, some d => (match at1 C.bl d.blue, s.l[(2 * (o.bay - 1) + (if o.kind = 1 then 0 else 1)).toNat]? with
   | some b, some x => if zuc s o x d ≠ 0 then zuc s o x d else if zc1 b d o ≠ 0 then zc1 b d o else
     if zan (oK o.who) s.p < (zea y b d o (zjx s.js.length o)).fee then 6 else
     if (zea y b d o (zjx s.js.length o)).needs.all (fun t => decide (t.2 ≤ zan (bin ⟨o.own, o.div, y.place, 1⟩ t.1) s.b)) then 0 else 7
   | _, _ => 3)
 | _, _ => 3
theorem zx1 {x : Sd} (F : FindF C s now o y d b) (hk : 2 * (o.bay - 1) + (if o.kind = 1 then 0 else 1) = (k : Int)) (hx : s.l[k]? = some x) :
 insE C s now o = if zuc s o x d ≠ 0 then zuc s o x d else if zc1 b d o ≠ 0 then zc1 b d o else
  if zan (oK o.who) s.p < (zea y b d o (zjx s.js.length o)).fee then 6 else
  if (zea y b d o (zjx s.js.length o)).needs.all (fun t => decide (t.2 ≤ zan (bin ⟨o.own, o.div, y.place, 1⟩ t.1) s.b)) then 0 else 7 := by
 unfold insE
 rw [if_neg (by rw [F.zero]; simp), F.bay, F.dr]
 simp only
 rw [F.bl, show (2 * (o.bay - 1) + (if o.kind = 1 then 0 else 1)).toNat = k by omega, hx]
theorem inst_S (hC : KtOk C) (hp : PInv s.p 562) (hpl : s.p.length ≤ 700000) (hb : BInv s.b) (hbl : s.b.length ≤ 700000) (hd : DNum s.ds) (hdl : s.ds.length ≤ 1000) (hdo : ∀ d ∈ s.ds, isD d = true ∧ 1 ≤ d.own) (hw : shJ s.js) (hl : s.js.length ≤ 1000)
 (hs4 : s.l.length = 4) (hsl : ∀ x ∈ s.l, x.run.length ≤ 1000 ∧ x.wait.length ≤ 1000 ∧ (x.run.length : Int) ≤ x.n) (hT : (s.T.length : Int) < 256) (hn : s.next ≠ 1099511627776) (hfresh : ∀ x ∈ s.l, (s.js.length : Int) + 1 ∉ x.run ∧ (s.js.length : Int) + 1 ∉ x.wait)
 (k1 : ∀ e, e ≠ 0 → insE C s now o = e → Q (.t [.i 0, .i e]) (W8 C s))
 (k2 : ∀ (i : Nat) (y : Yb) (d : Dr) (b : Bl) (k : Nat) (x : Sd) (j : Jb) (p' b' : Tb) (s' : Wk), s.ds[i]? = some d → o.draft = (i : Int) + 1 → InsF C s now o y d b k x j p' b' → Asks (insW s i d j p' b') k x s.js.length j now s' → Q (.t [.i ((s.js.length : Int) + 1), .i 0]) (W9 C s')) :
 PRun Tryz.prog 29 (W8 C s) [.r 0 0, .i now, oV o] Q := by
 have hlen : ((s.js.map za2).length : Int) = (s.js.length : Int) := by rw [zzc]
 have eid : zy5 .i64 (((s.js.map za2).length : Int) + 1) = (s.js.length : Int) + 1 := by rw [hlen, w64 (by omega) (by omega)]
 have hcb : C.bays.length ≤ 1000 := by have := hC.bays; omega
 -- what it names
 by_cases hf : zff C s now o = 0
 rotate_left
 · obtain ⟨ek, hek⟩ := zwv (findE_nn C s now o) hf
   refine S29e1 (ek := ek) ⟨?_, k1 _ (by rw [← hek]; exact hf) (by rw [← hek]; unfold insE; rw [if_pos hf])⟩
   rw [eid]
   refine PRun.drop 8 ?_
   refine zrd (y0 := yZ) (d0 := rZ) (b0 := bZ) (j := zjx s.js.length o) (m0 := 0) hp (by omega) hd (by omega) hcb hC.bl (fun y d b m h => ?_) fun y d b F => ?_
   · exact ⟨by rw [hek], rfl⟩
   · exact absurd F.zero hf
 obtain ⟨y, d, b, F⟩ := FindF.of hf
 obtain ⟨iy, hiy, hyn⟩ := zcb F.bay
 obtain ⟨i, hi, hdn⟩ := zcb F.dr
 obtain ⟨ib, hib, hbn⟩ := zcb F.bl
 have hyb := (zza.1 hiy).1
 have hid := (zza.1 hi).1
 have hC2 := hC.bays
 have hyok := hC.bay y (zzf hiy)
 have hbr := hC.rg b (zzf hib)
 have hdd := hdo d (zzf hi)
 have hdI := zf2 hdd.1
 have hkd := F.kind
 obtain ⟨k, hk⟩ : ∃ k : Nat, 2 * (o.bay - 1) + (if o.kind = 1 then 0 else 1) = (k : Int) := ⟨(2 * (o.bay - 1) + (if o.kind = 1 then 0 else 1)).toNat, by split <;> omega⟩
 have hk4 : k < s.l.length := by rw [hs4]; split at hk <;> omega
 have hx := zzb hk4
 generalize s.l[k] = x at hx
 have hE := zx1 F hk hx
 have hxl := hsl x (zzf hx)
 have P1 : ∀ {R : V → Mem → Prop}, R (.i 0) (WO C s o y d b (zjx s.js.length o) (zan (oK o.who) s.p)) → PRun Tryz.prog 84 (WO C s o yZ rZ bZ (zjx s.js.length o) 0) [.r 0 0, .i now, .r 8 0] R := fun {R} h => by
  refine zrd hp (by omega) hd (by omega) hcb hC.bl (fun y d b m h => absurd hf h) fun y' d' b' F' => ?_
  have e1 := F.bay; rw [F'.bay] at e1; cases e1
  have e2 := F.dr; rw [F'.dr] at e2; cases e2
  have e3 := F.bl; rw [F'.bl] at e3; cases e3
  exact h
 have P2 : ∀ {R : V → Mem → Prop}, R (.i (zuc s o x d)) (WO C s o y d b (zjx s.js.length o) (zan (oK o.who) s.p)) → PRun Tryz.prog 85 (WO C s o y d b (zjx s.js.length o) (zan (oK o.who) s.p)) [.r 0 0, .r 8 0] R := fun {R} h =>
  wfits_S hw hl (by omega) hk hx ⟨hxl.1, hxl.2.1⟩ h
 by_cases hft : zuc s o x d = 0
 rotate_left
 · obtain ⟨ek, hek⟩ := zwv (fitE_nn s o x d) hft
   refine S29e2 (ek := ek) (n_place := y.place) (n_make := y.make) (n_lab := y.lab) (n_rate := y.rate) (e_id := d.id) (e_own := d.own) (e_div := d.div) (e_place := d.place) (e_blue := d.blue) (e_me := d.me) (e_te := d.te) (e_runs := d.runs) (e_busy := d.busy) (b_makes := b.makes) (b_per := b.per) (b_time := b.time) (b_needs := b.needs.map eS) (b_copy := b.copy) (b_study := b.study) (b_most := b.most) (money := zan (oK o.who) s.p) ⟨?_, ?_, k1 _ (by rw [← hek]; exact hft) (by rw [hE, if_pos hft, hek])⟩
   · rw [eid]; exact P1 ⟨rfl, rfl⟩
   · rw [eid]; exact PRun.drop 8 (P2 ⟨by rw [hek], rfl⟩)
 rw [hft] at P2
 -- what it needs
 have hnew : (zjx s.js.length o).needs = [] := rfl
 by_cases hpe : zc1 b d o = 0
 rotate_left
 · obtain ⟨ek, hek⟩ := zwv (planE_nn b d o) hpe
   refine S29e3 (ek := ek) (n_place := y.place) (n_make := y.make) (n_lab := y.lab) (n_rate := y.rate) (e_id := d.id) (e_own := d.own) (e_div := d.div) (e_place := d.place) (e_blue := d.blue) (e_me := d.me) (e_te := d.te) (e_runs := d.runs) (e_busy := d.busy) (b_makes := b.makes) (b_per := b.per) (b_time := b.time) (b_needs := b.needs.map eS) (b_copy := b.copy) (b_study := b.study) (b_most := b.most) (money := zan (oK o.who) s.p) ⟨?_, ?_, ?_, k1 _ (by rw [← hek]; exact hpe) (by rw [hE, if_neg (fun h => h hft), if_pos hpe, hek])⟩
   · rw [eid]; exact P1 ⟨rfl, rfl⟩
   · rw [eid]; exact P2 ⟨rfl, rfl⟩
   · rw [eid]; exact PRun.drop 0 (zw0 (j := zjx s.js.length o) hbr (hC.q b (zzf hib)) hkd hdI.2.2.2.2.1 hdI.2.2.2.2.2.1 hyok.2 hnew (fun j' _ => ⟨by rw [hek], rfl⟩) fun h => absurd h hpe)
 rw [if_neg (fun h => h hft), if_neg (fun h => h hpe)] at hE
 have hfee := zoa (y := y) (j := zjx s.js.length o) hyok.2 hpe
 have hJok := jOk_new F hC hp hdd.1 hdd.2 (by
  unfold zuc at hft
  split at hft
  · cases hft
  · omega) (by omega) hpe
 generalize hj : zea y b d o (zjx s.js.length o) = j at *
 have hjid : j.id = (s.js.length : Int) + 1 := by rw [← hj]; rfl
 have hjkind : j.kind = o.kind := by rw [← hj]; rfl
 have hjbay : j.bay = o.bay := by rw [← hj]; rfl
 have hjruns : j.runs = o.runs := by rw [← hj]; rfl
 have hjst : j.st = 1 := by rw [← hj]; rfl
 have hjneeds : j.needs = (zcj b d o).1 := by rw [← hj]; rfl
 have hnd := zmm (zcn hpe).2.1
 rw [← hjneeds] at hnd
 have hndl := zs4 hnd.1
 have hrb := (zcn hpe).1
 have hjs : s.js.length < 64 ∧ ¬ (6 ≤ zjv o.who s.js ∨ zcp x = false) ∧ d.busy = 0 := by
  unfold zuc at hft
  split at hft
  · cases hft
  · split at hft
    · cases hft
    · split at hft
      · cases hft
      · exact ⟨by omega, by assumption, by omega⟩
 have hroom : zcp x = true := by
  have := hjs.2.1
  cases h : zcp x with
  | true => rfl
  | false => exact absurd (.inr h) this
 refine S29e0 (n_place := y.place) (n_make := y.make) (n_lab := y.lab) (n_rate := y.rate) (e_id := d.id) (e_own := d.own) (e_div := d.div) (e_place := d.place) (e_blue := d.blue) (e_me := d.me) (e_te := d.te) (e_runs := d.runs) (e_busy := d.busy) (b_makes := b.makes) (b_per := b.per) (b_time := b.time) (b_needs := b.needs.map eS) (b_copy := b.copy) (b_study := b.study) (b_most := b.most) (money := zan (oK o.who) s.p) (t_time := j.time) (t_fee := j.fee) (t_needs := j.needs.map eS) ⟨?_, ?_, ?_, ?_⟩
 · rw [eid]; exact P1 ⟨rfl, rfl⟩
 · rw [eid]; exact P2 ⟨rfl, rfl⟩
 · rw [eid]
   refine zw0 (j := zjx s.js.length o) hbr (hC.q b (zzf hib)) hkd hdI.2.2.2.2.1 hdI.2.2.2.2.2.1 hyok.2 hnew (fun j' h => absurd hpe h) fun _ => ⟨rfl, ?_⟩
   rw [hj]
   subst hj
   rfl
 rw [eid]
 refine cIf (fun hm => k1 6 (by decide) (by rw [hE, if_pos hm])) fun hmoney => ?_
 have howns := F.own; have hdvs := F.div
 have hue : useE d ((s.js.length : Int) + 1) (zbm j) = 0 := by
  have hm : 0 ≤ zbm j ∧ zbm j ≤ 1000 ∧ (d.runs = -1 ∨ zbm j ≤ d.runs) := by
   unfold zbm zcd at *
   split
   · rename_i h; rw [hjkind] at h; rw [hjruns]; omega
   · rename_i h; rw [hjkind] at h; omega
  unfold useE
  have hu : zhf ((s.js.length : Int) + 1) (zbm j) = true := by
   unfold zhf
   rw [inJ_iff.2 ⟨by omega, by omega⟩, inJ_iff.2 ⟨hm.1, hm.2.1⟩]
   rfl
  rw [if_neg (by rw [hu]; decide), if_neg (by have := hjs.2.2; omega), if_neg (by omega)]
 have erow : [U.n ((s.js.length : Int) + 1), .n o.kind, .n o.own, .n o.div, .n o.who, .n o.bay, .n o.draft, .n o.runs, .n o.copies, .n j.time, .n j.fee, .l 2 (j.needs.map eS), .n 1, .n 0, .n 0, .n j.time] = za2 j := by subst hj; rfl
 have ejv : V.a [.i ((s.js.length : Int) + 1), .i o.kind, .i o.own, .i o.div, .i o.who, .i o.bay, .i o.draft, .i o.runs, .i o.copies, .i j.time, .i j.fee, .l 2 (j.needs.map eS), .i 1, .i 0, .i 0, .i j.time] = jV j := by subst hj; rfl
 have hplc := hyok.1
 refine zku (zyu hcb fun y' ey hy => ?_)
 rw [zma]
 obtain ⟨rfl, rfl⟩ : y' = y ∧ ey = 0 := by
  rcases hy with ⟨h, rfl⟩ | ⟨h, -⟩
  · rw [F.bay] at h; cases h; exact ⟨rfl, rfl⟩
  · rw [F.bay] at h; cases h
 refine lock2_B (fr := ⟨o.own, o.div, y'.place, 1⟩) hb (by omega) ⟨by omega, by omega⟩ (by omega) (isB_of (by omega) (by omega) hplc) hnd.1 (fun hex => ?_) fun hlie l1 htk hl1 hbi hbln => ?_
 · rw [zaz]; refine cNe (fun _ => k1 7 (by decide) (by
    rw [hE, if_neg hmoney, if_neg fun hall => ?_]
    obtain ⟨t, ht, hlt⟩ := hex
    have := of_decide_eq_true (z0o.1 hall t ht)
    omega)) fun h => absurd h (by decide)
 rw [zaz]
 refine cNe (fun h => absurd rfl h) fun _ => movP_S hp (by omega) fun e hpi hpn => ?_
 rw [zmc]
 intro kU hkU
 have hbln2 : (zih (vK ((s.js.length : Int) + 1) y'.place) j.needs l1).length ≤ s.b.length + 2 * j.needs.length := hbln
 have hF : InsF C s now o y' d b k x j (movP o.who 0 j.fee s.p) (zih (vK ((s.js.length : Int) + 1) y'.place) j.needs l1) :=
  ⟨F, by unfold jAt; rw [hjbay, hjkind]; exact hk, hx, hjs.1, hroom, hjs.2.2, hpe, hj.symm, by omega, hlie, rfl, hpi, hpn, ⟨l1, htk, hl1, by rw [hjid]⟩, hbi, by omega, hJok, hft⟩
 have fin : kU ((s.ds.set i (zun d ((s.js.length : Int) + 1) (zbm j))).map eD) s.g := by
  refine hkU _ _ ⟨?_, ?_⟩
  · unfold zak; simp; omega
  rw [erow, ejv]
  have e1 : s.js.map za2 ++ [za2 j] = (s.js ++ [j]).map za2 := by rw [zz2]; rfl
  rw [e1]
  have hjE : jE 1 j now = 0 := jE_zero.2 ⟨hJok, inJ_iff.2 F.t, by unfold zmu; rw [hjst]; rfl⟩
  refine asks_S (C := C) (s := insW s i d j (movP o.who 0 j.fee s.p) (zih (vK ((s.js.length : Int) + 1) y'.place) j.needs l1)) (i := s.js.length) (k := k) (x := x) ?_ ?_ ?_ hjid hjE hT hn (by rw [hjbay]; omega) (by unfold jAt; rw [hjbay, hjkind]; exact hk) hx (by rw [hjid]; exact hfresh) ?_ fun s' hs' => ?_
  · intro q hq
    rcases zzh.1 hq with hq | hq
    · exact hw q hq
    · rw [z03.1 hq]; omega
  · show (s.js ++ [j]).length ≤ 1000
    rw [zzx, List.length_singleton]
    omega
  · show (s.js ++ [j])[s.js.length]? = some j
    simp
  · unfold zcp at hroom
    simp only [Bool.or_eq_true, zy9, decide_eq_true_eq] at hroom
    have := hxl.2.2
    omega
  · have h := k2 i y' d b k x j _ _ s' hi hdn hF hs'
    rw [zii, zgk]
    exact ⟨h, h⟩
 refine cEq (fun hk1 => ?_) fun hk1 => ?_
 · have em : zbm j = o.runs := by unfold zbm; rw [hjkind, if_pos hk1, hjruns]
   rw [em] at hue fin
   refine use_D hd (by omega) (fun d hd => (hdo d hd).1) (fun h => by omega) (fun i' d' hi' hdn' h => ?_) fun i' d' hi' hdn' h => ?_
   · obtain rfl : i' = i := by omega
     rw [hi] at hi'; cases hi'
     exact absurd hue h
   · obtain rfl : i' = i := by omega
     rw [hi] at hi'; cases hi'
     rw [zdt]
     exact fin
 · have em : zbm j = 0 := by unfold zbm; rw [hjkind, if_neg hk1]
   rw [em] at hue fin
   refine use_D hd (by omega) (fun d hd => (hdo d hd).1) (fun h => by omega) (fun i' d' hi' hdn' h => ?_) fun i' d' hi' hdn' h => ?_
   · obtain rfl : i' = i := by omega
     rw [hi] at hi'; cases hi'
     exact absurd hue h
   · obtain rfl : i' = i := by omega
     rw [hi] at hi'; cases hi'
     rw [zdt]
     exact fin
end
end
section
set_option maxRecDepth 1000000
variable {Q : V → Mem → Prop}
structure WB (C : Kt) (s : Wk) : Prop where
 cat : KtOk C
 pinv : PInv s.p 562
 plen : s.p.length ≤ 700000
 binv : BInv s.b
 blen : s.b.length ≤ 700000
 dnum : DNum s.ds
 dlen : s.ds.length ≤ 1000
 glen : s.g = (s.ds.length : Int)
 dok : ∀ d ∈ s.ds, isD d = true ∧ 1 ≤ d.own
 jok : ∀ (i : Nat) (j : Jb), s.js[i]? = some j → jOk j = true ∧ j.id = (i : Int) + 1 ∧ 1 ≤ j.bay ∧ j.bay ≤ 2
 jlen : s.js.length ≤ 64
 l4 : s.l.length = 4
 lsz : ∀ x ∈ s.l, x.run.length ≤ 1000 ∧ x.wait.length ≤ 1000 ∧ (x.run.length : Int) ≤ x.n
 ids : s.T.Pairwise fun a b => a.2.1 ≠ b.2.1
 Tlen : (s.T.length : Int) < 256
 nx : s.next ≠ 1099511627776
theorem zgr {j : Jb} (h : jOk j = true) : ((1 ≤ j.id ∧ j.id ≤ 1099511627776) ∧ (1 ≤ j.own ∧ j.own ≤ 1099511627776) ∧ (1 ≤ j.who ∧ j.who ≤ 1099511627776) ∧ (1 ≤ j.draft ∧ j.draft ≤ 1099511627776) ∧ (1 ≤ j.time ∧ j.time ≤ 1099511627776)) ∧
 ((1 ≤ j.kind ∧ j.kind ≤ 4) ∧ (0 ≤ j.div ∧ j.div ≤ 4) ∧ (1 ≤ j.runs ∧ j.runs ≤ 1000)) ∧ jCop j = true ∧ zfg j.needs 32 = 0 := by
 unfold jOk zpk jNum zqm at h
 simp only [zy9, inJ_iff, beq_iff_eq] at h
 obtain ⟨⟨h1, h2, h3, h4, h5, h6, h7, h8, h9⟩, -⟩ := h
 exact ⟨⟨h1, h2, h3, h5, h6⟩, ⟨h7.1, h7.2.1, h7.2.2.1⟩, h8, h9.1⟩
theorem zdl {j : Jb} (h : jOk j = true) : j.needs.length ≤ 8 := zs4 (zgr h).2.2.2
theorem zvr {js : List Jb} (j : Jb) : zzm (js.map za2) i (za2 j) = (js.set i j).map za2 := by rw [z1n]
section
variable {C : Kt} {s : Wk} {now id : Int}
theorem WB.sh (B : WB C s) : shJ s.js := fun j hj => by
 obtain ⟨i, hi⟩ := z0e.1 hj
 have := zdl (B.jok i j hi).1
 omega
theorem WB.shs (B : WB C s) {j : Jb} (h : j.needs.length ≤ 8) : shJ (s.js.set i j) := fun x hx => by
 rcases z2h hx with hx | rfl
 · exact B.sh x hx
 · omega
theorem zt6 {w : Nat} {j : Jb} (h : jE w j now = 0) : jR w j now = jDo w j now := by unfold jR; rw [if_pos h]
def ztq (s : Wk) (w : Nat) (now id : Int) : Int := match at1 s.js id with
 | some j => jE w j now
 | none => 3
def zuy (s : Wk) (now id : Int) : Int := match at1 s.js id with
 | some j => if inJ now 0 1099511627776 = false then 1 else jE 6 j 0
 | none => 3
theorem zw4 {w : Nat} (h : id < 1 ∨ (s.js.length : Int) < id) : ztq s w now id = 3 := by unfold ztq; rw [zb1 h]
theorem zin {w : Nat} {j : Jb} (hg : s.js[i]? = some j) (hid : id = (i : Int) + 1) : ztq s w now id = jE w j now := by unfold ztq; rw [zam hg hid]
theorem pause_S (B : WB C s) (hL : ∀ (i : Nat) (j : Jb), s.js[i]? = some j → id = (i : Int) + 1 → jE 2 j now = 0 → LvOk { s with js := s.js.set i (jDo 2 j now) } id now)
 (k1 : ∀ e, e ≠ 0 → ztq s 2 now id = e → Q (.i e) (W9 C s)) (k2 : ∀ (i : Nat) (j : Jb) (s' : Wk), s.js[i]? = some j → id = (i : Int) + 1 → jE 2 j now = 0 → Lvs { s with js := s.js.set i (jDo 2 j now) } id now s' → Q (.i 0) (W9 C s')) :
 PRun Tryz.prog 35 (W8 C s) [.r 0 0, .i now, .i id] Q := by
 have hjl := B.jlen
 have hlen : ((s.js.map za2).length : Int) = (s.js.length : Int) := by rw [zzc]
 refine S35 (zqk B.sh (by omega) (fun hh => ?_) fun i j hg hid => ?_)
 · rw [zce]
   exact cNe (fun _ => cEq (fun h => absurd h (by decide)) fun _ => k1 3 (by decide) (zw4 hh)) fun h => absurd h (by decide)
 rw [zce]
 have hlt := (zza.1 hg).1
 have hn8 := zdl (B.jok i j hg).1
 refine cNe (fun h => absurd rfl h) fun _ => jpause_S (j := j) (by omega) ?_
 rw [zgi]
 by_cases he : jE 2 j now = 0
 rotate_left
 · exact cEq (fun h => absurd h he) fun _ => k1 _ he (zin hg hid)
 rw [zt6 he, he]
 refine cEq (fun _ => ?_) fun h => absurd rfl h
 rw [hlen, w64 (x := id - 1) (by omega) (by omega), show (id - 1).toNat = i by omega, zvr (jDo 2 j now)]
 refine ⟨by omega, by omega, zsk (s := { s with js := s.js.set i (jDo 2 j now) }) (B.shs hn8) (by show (s.js.set i (jDo 2 j now)).length ≤ 1000; rw [z0b]; omega) (by omega) B.ids B.Tlen B.nx (hL i j hg hid he) fun s' hs' => ?_⟩
 rw [zgk]
 exact k2 i j s' hg hid he hs'
theorem fire_S (B : WB C s) (hL : ∀ (i : Nat) (j : Jb), s.js[i]? = some j → id = (i : Int) + 1 → jE 4 j now = 0 → LvOk { s with js := s.js.set i (jDo 4 j now) } id now)
 (k1 : ∀ e, e ≠ 0 → (∀ (i : Nat) (j : Jb), s.js[i]? = some j → id = (i : Int) + 1 → jE 4 j now ≠ 0) → Q (.i e) (W9 C s)) (k2 : ∀ (i : Nat) (j : Jb) (s' : Wk), s.js[i]? = some j → id = (i : Int) + 1 → jE 4 j now = 0 → Lvs { s with js := s.js.set i (jDo 4 j now) } id now s' → Q (.i 0) (W9 C { s' with Lg := znd s'.Lg (now, 1, id, 4) })) :
 PRun Tryz.prog 40 (W8 C s) [.r 0 0, .i now, .i id] Q := by
 have hjl := B.jlen
 refine S40 (zqk B.sh (by omega) (fun hh => ?_) fun i j hg hid => ?_)
 · rw [zce]
   refine cNe (fun _ => cEq (fun h => absurd h (by decide)) fun _ => k1 3 (by decide) fun i j hg hid => ?_) fun h => absurd h (by decide)
   have := (zza.1 hg).1
   omega
 rw [zce]
 have hlt := (zza.1 hg).1
 have hn8 := zdl (B.jok i j hg).1
 have hji := (B.jok i j hg).2.1
 refine cNe (fun h => absurd rfl h) fun _ => zxq (j := j) (by omega) ?_
 rw [zgi]
 by_cases he : jE 4 j now = 0
 rotate_left
 · refine cEq (fun h => absurd h he) fun _ => k1 _ he fun i' j' hg' hid' => ?_
   obtain rfl : i' = i := by omega
   rw [hg] at hg'; cases hg'
   exact he
 rw [zt6 he, he]
 refine cEq (fun _ => ?_) fun h => absurd rfl h
 have hid2 : (jDo 4 j now).id = id := by show j.id = id; omega
 refine ends_S (i := i) (j := jDo 4 j now) (B.shs hn8) (by omega) hlt (by show j.id = (i : Int) + 1; omega) B.ids B.Tlen B.nx (by rw [hid2]; exact hL i j hg hid he) fun s' hs' => ?_
 rw [zgk]
 rw [hid2] at hs' ⊢
 exact k2 i j s' hg hid he hs'
def zdx (ds : List Dr) (id job runs : Int) : List Dr := match at1 ds id with
 | some d => if zub d job runs = 0 then ds.set (id - 1).toNat (zo3 d runs) else ds
 | none => ds
theorem zqw {g job : Int} (hd : DNum ds) (hl : ds.length ≤ 100000) (ho : ∀ d ∈ ds, isD d = true) (K : ∀ e, Q (.i e) [drB (zdx ds id job runs) g]) : PRun Tryz.prog 97 [drB ds g] [.r 0 0, .i id, .i job, .i runs] Q := by
 unfold zdx at K
 refine free_D hd hl ho (fun h => ?_) (fun i d hg hid h => ?_) fun i d hg hid h => ?_
 · rw [zb1 h] at K; exact K _
 · rw [zam hg hid] at K; simp only at K; rw [if_neg h] at K; exact K _
 · rw [zam hg hid] at K; simp only at K; rw [if_pos h, show (id - 1).toNat = i by omega] at K; exact K _
def zbl (C : Kt) (j : Jb) : Int := match at1 C.bays j.bay with
 | some y => y.place
 | none => 0
theorem bayJ_S (B : WB C s) {j : Jb} (hg : s.js[i]? = some j) (K : ∀ y : Yb, y.place = zbl C j → (1 ≤ y.place ∧ y.place ≤ 8) → Q (.t [yVb y, .i 0]) []) : PRun Tryz.prog 180 [] [ctV C, .i j.bay] Q := by
 have h2 := B.cat.bays
 have hb := (B.jok i j hg).2.2
 refine zyu (by omega) fun y e hy => ?_
 rcases hy with ⟨h, rfl⟩ | ⟨h, -⟩
 · obtain ⟨i, hi, -⟩ := zcb h
   exact K y (by unfold zbl; rw [h]) (B.cat.bay y (zzf hi)).1
 · unfold at1 at h
   rw [if_pos hb.1] at h
   have := z3h.1 h
   omega
def zj4 (C : Kt) (j : Jb) (b : Tb) : Tb := zih ⟨j.own, j.div, zbl C j, 1⟩ (zha (vK j.id (zbl C j)) b) (rmv (vK j.id (zbl C j)) b)
abbrev canW (C : Kt) (s : Wk) (i : Nat) (j : Jb) : Wk := { s with b := zj4 C j s.b, ds := zdx s.ds j.draft j.id (zbm j), js := s.js.set i (jDo 6 j 0) }
theorem zyl (B : WB C s) (hL : ∀ (i : Nat) (j : Jb), s.js[i]? = some j → id = (i : Int) + 1 → jE 6 j 0 = 0 → 0 ≤ now ∧ now ≤ 1099511627776 → LvOk { s with js := s.js.set i (jDo 6 j 0) } id now)
 (k1 : ∀ e, e ≠ 0 → zuy s now id = e → Q (.i e) (W9 C s)) (k2 : ∀ (i : Nat) (j : Jb) (s' : Wk), s.js[i]? = some j → id = (i : Int) + 1 → jE 6 j 0 = 0 → 0 ≤ now ∧ now ≤ 1099511627776 → BInv (zj4 C j s.b) → (zj4 C j s.b).length ≤ s.b.length → Lvs (canW C s i j) id now s' → Q (.i 0) (W9 C { s' with Lg := znd s'.Lg (now, 1, id, 6) })) :
 PRun Tryz.prog 37 (W8 C s) [.r 0 0, .i now, .i id] Q := by
 have hjl := B.jlen
 have hdl := B.dlen
 have hbl := B.blen
 refine S37 (zqk B.sh (by omega) (fun hh => ?_) fun i j hg hid => ?_)
 · rw [zce]
   exact cNe (fun _ => cNe (fun _ => k1 3 (by decide) (by unfold zuy; rw [zb1 hh])) fun h => absurd h (by decide)) fun h => absurd h (by decide)
 rw [zce]
 have hlt := (zza.1 hg).1
 have hjo := B.jok i j hg
 have hn8 := zdl hjo.1
 have hfx := zgr hjo.1
 refine cNe (fun h => absurd rfl h) fun _ => zng (fun ht => k1 1 (by decide) (by unfold zuy; rw [zam hg hid]; simp only; rw [if_pos ht])) fun ht => zxr (j := j) (by omega) ?_
 have hcE : zuy s now id = jE 6 j 0 := by unfold zuy; rw [zam hg hid]; simp only; rw [if_neg (by rw [ht]; simp)]
 have ht := inJ_iff.1 ht
 rw [zgi]
 by_cases he : jE 6 j 0 = 0
 rotate_left
 · exact cNe (fun _ => k1 _ he hcE) fun h => absurd h he
 rw [zt6 he, he]
 refine cNe (fun h => absurd rfl h) fun _ => zku (bayJ_S B (j := j) hg fun y hy hpl => ?_)
 rw [zma]
 have hP0 := zrw (x := vK j.id y.place) (to := ⟨j.own, j.div, y.place, 1⟩) B.binv
 have hx : isB (bin ⟨j.own, j.div, y.place, 1⟩ 1) = true := isB_of (by omega) (by omega) hpl
 have hres := zrv hx hP0
 rw [show id = j.id by omega]
 refine zwe (to := ⟨j.own, j.div, y.place, 1⟩) B.binv (by omega) ⟨by omega, by omega⟩ hpl rfl hx ?_
 rw [zaz]
 rw [hy] at hres ⊢
 intro kF hkF
 have hid2 : (jDo 6 j 0).id = id := by show j.id = id; omega
 have eid : j.id = id := by omega
 have fin : kF ((zdx s.ds j.draft j.id (zbm j)).map eD) s.g := by
  refine hkF _ _ (ends_S (C := C) (s := { s with b := zj4 C j s.b, ds := zdx s.ds j.draft j.id (zbm j) }) (i := i) (j := jDo 6 j 0) (B.shs hn8) (by show s.js.length ≤ 1000; omega) hlt (by show j.id = (i : Int) + 1; omega) B.ids B.Tlen B.nx (by rw [hid2]; exact hL i j hg hid he ht) fun s' hs' => ?_)
  rw [zgk]
  rw [hid2] at hs' ⊢
  exact k2 i j s' hg hid he ht hres.1 hres.2 hs'
 have hdo : ∀ d ∈ s.ds, isD d = true := fun d hd => (B.dok d hd).1
 refine cEq (fun hk => ?_) fun hk => ?_
 · have hk : j.kind = 1 := hk
   have em : zbm j = j.runs := by unfold zbm; rw [if_pos hk]
   rw [em] at fin
   refine zqw B.dnum (by omega) hdo fun e => ?_
   rw [zdt]; exact fin
 · have hk : j.kind ≠ 1 := hk
   have em : zbm j = 0 := by unfold zbm; rw [if_neg hk]
   rw [em] at fin
   refine zqw B.dnum (by omega) hdo fun e => ?_
   rw [zdt]; exact fin
end
end
end Go.Proofs.YtacglpinmpncaaaGreat
