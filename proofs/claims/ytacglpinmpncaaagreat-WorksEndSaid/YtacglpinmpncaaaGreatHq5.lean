/- The same within closed runs. -/
import Derived.Test.YtacglpinmpncaaaGreatHq4
import Derived.Test.YtacglpinmpncaaaGreatProg
import Derived.RecoverIn
set_option linter.unusedVariables false
namespace Go.Proofs.YtacglpinmpncaaaGreat
variable {next : Act → World → Prop} {after : Array Edge} {b d f g h i id j n p t types v : Int} {k x : K4} {a c e o q : List (List U)} {m : List (MK × List U)} {L : List Stk} {vs : List Value} {guard : Option (Nat × Bool)} {r : Option Nat} {dst : Option Tmp} {P : Program} {pos : String} {l : Tb} {E ty : TypeId} {Q : V → Mem → Prop} {w : World}
open _root_.Bool renaming and_assoc → z2w, and_eq_false_iff → z1v, and_eq_true → zyy, false_eq_true → z0x, not_eq_true' → zzt, not_true → z0c, or_eq_false_iff → z2e
open _root_.Int renaming eq_ofNat_of_zero_le → z04, fdiv_eq_ediv_of_nonneg → z23, le_refl → zzk, toNat → zyx, toNat_natCast → zzm, zero_add → z26
open _root_.Go.IntKind renaming wrap → zyu, wrap_u64 → z2v
open _root_.List renaming all_eq_true → z0d, append_assoc → zy8, append_nil → zzw, cons_append → zz6, drop_drop → z08, drop_eq_nil_of_le → z0u, drop_zero → z09, eq_nil_of_length_eq_zero → z0p, ext_getElem? → z1a, filter_cons_of_neg → z06, filter_cons_of_pos → z1w, filter_eq_nil_iff → z3j, filter_eq_self → z16, find?_eq_none → z2d, find?_some → z2o, flatten_append → zzs, flatten_cons → zzd, flatten_nil → z2h, getD_eq_getElem?_getD → z07, getElem?_append_left → zy7, getElem?_append_right → zzn, getElem?_eq_getElem → zy0, getElem?_eq_none → z0m, getElem?_eq_some_iff → zyz, getElem?_map → zy5, getElem?_set_ne → zzp, getElem?_set_self → zz3, length → zyv, length_append → zzl, length_cons → zzg, length_drop → z1j, length_filter_le → z0b, length_map → zy2, length_nil → z0z, length_set → zzz, length_take → zz1, map → zzf, map_append → zzr, map_cons → zzj, map_drop → z1f, map_nil → z1n, map_take → z03, mem_append → zy6, mem_cons → zy3, mem_cons_of_mem → zzo, mem_cons_self → zzq, mem_filter → z0f, mem_iff_getElem? → zz4, mem_map → zzu, mem_of_find?_eq_some → z2n, mem_of_getElem? → zy4, mem_of_mem_drop → z1s, mem_of_mem_take → z1r, mem_range → z1c, mem_singleton → z0s, mem_singleton_self → zzx, nil_append → zz7, pairwise_cons → zz5, pairwise_map → z17, perm_append_comm_assoc → zz2, range → zzh, replicate → zzi, set → zzb, take_add_one → z05, take_append_drop → z0h, take_length → z0r, take_of_length_le → z0v, take_sublist → z3i
open _root_.Nat renaming beq → zyw, eq_of_beq_eq_true → zy1, le_refl → zy9, le_succ → z0i, lt_or_ge → z0o, zero_add → zze, zero_le → zzv
open _root_.Option renaming getD_some → zz8, isSome_iff_exists → z2k, map_eq_some_iff → z0e
def zd3 (f : K4 → Bool) : Tb → Int
 | [] => 0
 | r :: l => (if f r.1 then r.2 else 0) + zd3 f l
theorem tget_low {r : K4 × Int} (hs : Srt (r :: l)) (h : ¬ r.1.lt k) (e : ¬ r.1 = k) : zau k l = none := by
 rcases K4.tri r.1 k with h1 | h1 | h1
 · exact absurd h1 h
 · exact absurd h1 e
 · exact zdc fun s hs' => h1.trans (hs.head s hs')
theorem zky {f : K4 → Bool} {k : K4} {v : Int} : ∀ {l : Tb}, Srt l → zd3 f (zdb k v l) = zd3 f l + (if f k then v - zam k l else 0)
 | [], _ => by simp [zdb, zd3, zam, zau]
 | r :: l, hs => by
   simp only [zdb]
   by_cases h : r.1.lt k
   · have e : ¬ r.1 = k := fun e => K4.irr k (by rwa [e] at h)
     rw [if_pos h]
     simp only [zd3, zam, zau, if_neg e]
     rw [zky hs.tail]
     simp only [zam]
     omega
   · rw [if_neg h]
     by_cases e : r.1 = k
     · rw [if_pos e]
       simp only [zd3, zam, zau, e, if_true, zz8]
       split <;> omega
     · rw [if_neg e]
       simp only [zd3, zam, zau, if_neg e, tget_low hs h e, Option.getD_none]
       split <;> omega
theorem zq5 {f : K4 → Bool} {k : K4} : ∀ {l : Tb}, Srt l → zd3 f (zj6 k l) = zd3 f l - (if f k then zam k l else 0)
 | [], _ => by simp [zj6, zd3, zam, zau]
 | r :: l, hs => by
   simp only [zj6]
   by_cases e : r.1 = k
   · rw [if_pos e]
     simp only [zd3, zam, zau, e, if_true, zz8]
     split <;> omega
   · rw [if_neg e]
     simp only [zd3, zam, zau, if_neg e]
     rw [zq5 hs.tail]
     simp only [zam]
     omega
theorem zd2 {f : K4 → Bool} (hs : Srt l) : zd3 f (zez k v l) = zd3 f l + (if f k then v - zam k l else 0) := by
 unfold zez
 split
 · rename_i h
   subst h
   rw [zq5 hs]
   split <;> omega
 · exact zky hs
theorem zhq (hs : Srt l) : Srt (zez k v l) := by
 unfold zez
 split
 · exact zrc hs
 · exact zhc hs
theorem bset_get (j : K4) (hs : Srt l) : zau j (zez k v l) = if j = k then (if v = 0 then none else some v) else zau j l := by
 unfold zez
 split
 · exact zk5 j hs
 · exact zk2 j hs
theorem zmi (j : K4) (hs : Srt l) : zam j (zez k v l) = if j = k then v else zam j l := by
 unfold zam
 rw [bset_get j hs]
 by_cases h : j = k
 · rw [if_pos h, if_pos h]
   split
   · rename_i h2; rw [h2]; rfl
   · rfl
 · rw [if_neg h, if_neg h]
theorem bset_mem {r : K4 × Int} (h : r ∈ zez k v l) : (r = (k, v) ∧ v ≠ 0) ∨ r ∈ l := by
 unfold zez at h
 split at h
 · exact .inr (zk3 h)
 · rename_i hv
   exact (zhd h).imp (fun e => ⟨e, hv⟩) id
theorem zk1 {k : K4} {v : Int} : ∀ {l : Tb}, (zdb k v l).length ≤ l.length + 1
 | [] => by simp [zdb]
 | r :: l => by
   have := zk1 (k := k) (v := v) (l := l)
   simp only [zdb]
   split
   · simp only [zzg]; omega
   · split <;> simp
theorem zk4 {k : K4} : ∀ {l : Tb}, (zj6 k l).length ≤ l.length
 | [] => by simp [zj6]
 | r :: l => by
   have := zk4 (k := k) (l := l)
   simp only [zj6]
   split <;> simp only [zzg] <;> omega
theorem zhr : (zez k v l).length ≤ l.length + 1 := by
 unfold zez
 split
 · have := zk4 (k := k) (l := l); omega
 · exact zk1
theorem zkz {f : K4 → Bool} : ∀ {l : Tb}, (∀ r ∈ l, 0 ≤ r.2) → 0 ≤ zd3 f l
 | [], _ => zzk _
 | r :: l, h => by
   have h1 := h r zzq
   have h2 := zkz (f := f) (l := l) fun s hs => h s (zzo _ hs)
   simp only [zd3]
   split <;> omega
theorem zng {f : K4 → Bool} {k : K4} (hf : f k = true) : ∀ {l : Tb}, (∀ r ∈ l, 0 ≤ r.2) → 0 ≤ zam k l ∧ zam k l ≤ zd3 f l
 | [], _ => ⟨zzk _, zzk _⟩
 | r :: l, h => by
   have h1 := h r zzq
   have h3 := zkz (f := f) (l := l) fun s hs => h s (zzo _ hs)
   have h2 := zng hf (l := l) fun s hs => h s (zzo _ hs)
   simp only [zam, zau, zd3] at *
   by_cases e : r.1 = k
   · rw [if_pos e, zz8, e, if_pos hf]; omega
   · rw [if_neg e]; split <;> omega
section
variable {Q : V → Mem → Prop}
def tyQ (d : Int) (l : Tb) : Int := zd3 (fun k => k.d == d) l
def zfl (l : Tb) : List Int := (zzh 33).map fun i : Nat => tyQ (i : Int) l
theorem zhe (l : Tb) : (zfl l).length = 33 := by simp [zfl]
theorem zdk (l : Tb) (h : 0 ≤ d ∧ d < 33) : (zfl l)[d.toNat]? = some (tyQ d l) := by
 obtain ⟨n, rfl⟩ := z04 h.1
 unfold zfl
 rw [show (n : Int).toNat = n from rfl, zy5, List.getElem?_range (by omega)]
 rfl
structure BInv (l : Tb) : Prop where
 srt : Srt l
 key : ∀ r ∈ l, isB r.1 = true ∧ 1 ≤ r.2
 top : ∀ d, tyQ d l ≤ 1125899906842624
theorem BInv.nn (h : BInv l) : ∀ r ∈ l, 0 ≤ r.2 := fun r hr => by have := (h.key r hr).2; omega
theorem BInv.val (h : BInv l) (k : K4) : 0 ≤ zam k l ∧ zam k l ≤ tyQ k.d l := zng (by simp) h.nn
theorem zqh (h : isB k = true) : 1 ≤ k.d ∧ k.d ≤ 32 := by
 simp only [isB, zyy, decide_eq_true_eq] at h; omega
theorem BInv.set (h : BInv l) (hk : isB k = true) (h0 : 0 ≤ zam k l + n) (ht : tyQ k.d l + n ≤ 1125899906842624) : BInv (zez k (zam k l + n) l) where
 srt := zhq h.srt
 key r hr := by
  rcases bset_mem hr with ⟨e, hv⟩ | e
  · subst e; exact ⟨hk, by show 1 ≤ zam k l + n; omega⟩
  · exact h.key r e
 top d := by
  unfold tyQ
  rw [zd2 h.srt]
  split
  · rename_i e
    simp only [beq_iff_eq] at e
    subst e
    have : zd3 (fun j => j.d == k.d) l = tyQ k.d l := rfl
    omega
  · have := h.top d; unfold tyQ at this; omega
theorem zq9 (h : BInv l) (hk : isB k = true) (h0 : 0 ≤ tyQ k.d l + n) (ht : tyQ k.d l + n ≤ 1125899906842624) : aset (zfl l) k.d n = zfl (zez k (zam k l + n) l) := by
 have hd := zqh hk
 unfold aset
 rw [zdk l (by omega), zz8, w64 (by omega) (by omega)]
 apply z1a
 intro i
 by_cases hi : i < 33
 · have e2 : (zfl (zez k (zam k l + n) l))[i]? = some (tyQ (i : Int) (zez k (zam k l + n) l)) := zdk _ (d := (i : Int)) (by omega)
   rw [e2]
   unfold tyQ
   rw [zd2 h.srt]
   by_cases e : k.d.toNat = i
   · have e3 : k.d = (i : Int) := by omega
     rw [e, zz3 (by rw [zhe]; omega), if_pos (by simp [e3]), e3]
     congr 1; omega
   · rw [zzp e, if_neg (by simp; omega), Int.add_zero]
     exact zdk l (d := (i : Int)) (by omega)
 · rw [z0m (by rw [zzz, zhe]; omega), z0m (by rw [zhe]; omega)]
abbrev bK (l : Tb) : AB := bC l (zfl l)
theorem zyq (h : BInv l) (hl : l.length ≤ 999999) (hk : isB k = true) (h0 : 0 ≤ zam k l + n) (h1 : 0 ≤ tyQ k.d l + n) (ht : tyQ k.d l + n ≤ 1125899906842624) (K : Q (.t []) [bK (zez k (zam k l + n) l)]) :
 PRun Tryz.prog 298 [bK l] [.r 0 0, kV k, .i n] Q := by
 have hd := zqh hk
 have hv := h.val k
 refine adds_B h.srt hl (zhe l) (by omega) ?_
 rw [zq9 h hk h1 ht, w64 (by omega) (by omega)]
 exact K
theorem put_B (h : BInv l) (hl : l.length ≤ 999999) (k1 : isB k = false ∨ n < 0 → Q (.i 1) [bK l]) (k2 : isB k = true → 0 ≤ n → 1125899906842624 - tyQ k.d l < n → Q (.i 5) [bK l])
 (k3 : isB k = true → 0 ≤ n → tyQ k.d l + n ≤ 1125899906842624 → Q (.i 0) [bK (zez k (zam k l + n) l)]) : PRun Tryz.prog 205 [bK l] [.r 0 0, kV k, .i n] Q := by
 refine S205 (zxn ?_)
 rw [zb7]
 cases hk : isB k with
 | false => exact k1 (.inl hk)
 | true =>
   have hd := zqh hk
   have hv := h.val k
   have ht := h.top k.d
   refine cIf (fun h1 => k1 (.inr h1)) fun h1 => ⟨by omega, by omega, ?_⟩
   rw [zah (r := tyQ k.d l) (by omega) (zdk l (by omega)), w64 (by omega) (by omega)]
   exact cIf (fun h2 => k2 hk (by omega) (by omega)) fun h2 => zyq h hl hk (by omega) (by omega) (by omega) (k3 hk (by omega) (by omega))
theorem take_B (h : BInv l) (hl : l.length ≤ 999999) (k1 : isB k = false ∨ n < 0 → Q (.i 1) [bK l]) (k2 : isB k = true → 0 ≤ n → zam k l < n → Q (.i 7) [bK l])
 (k3 : isB k = true → 0 ≤ n → n ≤ zam k l → Q (.i 0) [bK (zez k (zam k l + -n) l)]) : PRun Tryz.prog 291 [bK l] [.r 0 0, kV k, .i n] Q := by
 refine S291 (zxn ?_)
 rw [zb7]
 cases hk : isB k with
 | false => exact k1 (.inl hk)
 | true =>
   have hd := zqh hk
   have hv := h.val k
   have ht := h.top k.d
   refine cIf (fun h1 => k1 (.inr h1)) fun h1 => qty_S h.srt (by omega) ?_
   show (bif decide (n > zam k l) then _ else _ : Prop)
   refine cIf (fun h2 => k2 hk (by omega) (by omega)) fun h2 => ?_
   rw [w64 (by omega) (by omega), Int.zero_sub]
   exact zyq h hl hk (by omega) (by omega) (by omega) (k3 hk (by omega) (by omega))
end
section
set_option maxRecDepth 100000
theorem zp6 : Tryz.prog.follows .mixedOrders = true := by kernel_rfl
theorem S168 (hh : ∃ (c : Int → Int → Prop) (f : Int → Int → Nat), c 0 0 ∧ (∀ d a : Int, c d a → (bif decide (a < (zyv e : Int)) then elL e a (fun g => dI .i64 (ug g 0) (fun b => dI .i64 (ug g 1) (fun h => (bif decide (b ≤ d) then Q (.i 1) [] else (bif decide (b > i) then Q (.i 1) [] else (bif decide (h < 1) then Q (.i 1) [] else (bif decide (h > 1125899906842624) then Q (.i 1) [] else c b (zyu .i64 (a + 1)) ∧ f b (zyu .i64 (a + 1)) < f d a))))))) else (bif decide ((zyv e : Int) > 8) then Q (.i 1) [] else Q (.i 0) [])))) : PRun Tryz.prog 168 [] [.l 2 e, .i i] Q :=
 zad zp6 Tryz.func168 (by kernel_rfl) (H := ⟨[((168, 3, 0), ⟨[(5, .I), (10, .I)], []⟩)], [], [], [], [], false, 64, KN.no, false, SP.no⟩) (n := 2) (by kernel_rfl) hh
theorem S286 {c : Int} {h : Bool} (hh : bif decide (c < 0) then Q (.t [.i 0, .i 1]) [] else (bif decide (d < 0) then Q (.t [.i 0, .i 1]) [] else (bif decide (b < 1) then Q (.t [.i 0, .i 1]) [] else PRun Tryz.prog 339 [] [.u (.i .u64 (zyu .u64 c)), .u (.i .u64 (zyu .u64 d))] (post [.one (.i .u64), .one (.i .u64)] [] (fun e f => (bif decide (e ≥ zyu .u64 b) then Q (.t [.i 0, .i 5]) [] else PRun Tryz.prog 340 [] [.u (.i .u64 e), .u (.i .u64 f), .u (.i .u64 (zyu .u64 b))] (post [.one (.i .u64), .one (.i .u64)] [] (fun a g => (bif h then (bif decide (g > 0) then (bif decide (a ≤ 9223372036854775807) then (bif decide (zyu .u64 (a + 1) > 9223372036854775807) then Q (.t [.i 0, .i 5]) [] else Q (.t [.i (zyu .i64 (zyu .u64 (a + 1))), .i 0]) []) else (bif decide (a > 9223372036854775807) then Q (.t [.i 0, .i 5]) [] else Q (.t [.i (zyu .i64 a), .i 0]) [])) else (bif decide (a > 9223372036854775807) then Q (.t [.i 0, .i 5]) [] else Q (.t [.i (zyu .i64 a), .i 0]) [])) else (bif decide (a > 9223372036854775807) then Q (.t [.i 0, .i 5]) [] else Q (.t [.i (zyu .i64 a), .i 0]) []) : Prop))) : Prop)))))) : PRun Tryz.prog 286 [] [.i c, .i d, .i b, .u (.b h)] Q :=
 zad zp6 Tryz.func286 (by kernel_rfl) (H := ⟨[], [], [], [], [], false, 64, KN.no, false, SP.no⟩) (n := 2) (by kernel_rfl) hh
theorem S285 {a c e : Int} {d i : List (List U)} (hh : PRun Tryz.prog 270 [] [(q22 a b c d e f g), .i 32] (post q7 [] (fun h => (bif h == 0 then PRun Tryz.prog 332 [] [.l 3 i] (post [.B] [] (fun j => (Q (.u (.b j)) [] : Prop))) else Q (.u (.b false)) [] : Prop)))) : PRun Tryz.prog 285 [] [(q22 a b c d e f g), .l 3 i] Q :=
 zad zp6 Tryz.func285 (by kernel_rfl) (H := ⟨[], [], [], [], [], false, 64, KN.no, false, SP.no⟩) (n := 2) (by kernel_rfl) hh
theorem S184 {k l m o a : Int} (hh : PRun Tryz.prog 285 [] [(q22 k l m e n o p), .l 3 [[.n h, .n 0, .n 10], [.n a, .n 1, .n 1000]]] (post [.B] [] (fun q => (bif !q then Q (.t [.l 2 [], .i 1]) [] else ∃ (f : List (List U) → Int → Prop) (i : List (List U) → Int → Nat), f [] 0 ∧ (∀ c : List (List U), ∀ d : Int, f c d → (bif decide (d < (zyv e : Int)) then elL e d (fun j => dI .i64 (ug j 0) (fun g => dI .i64 (ug j 1) (fun r => PRun Tryz.prog 286 [] [.i r, .i (zyu .i64 (a * zyu .i64 (100 - h))), .i 100, .u (.b true)] (post q10 [] (fun b s => (bif s != 0 then Q (.t [.l 2 [], .i 5]) [] else (bif decide ((if a > b then a else b) > 1125899906842624) then Q (.t [.l 2 [], .i 5]) [] else zan c [[.n g, .n (if a > b then a else b)]] ∧ (f (c ++ [[.n g, .n (if a > b then a else b)]]) (zyu .i64 (d + 1)) ∧ i (c ++ [[.n g, .n (if a > b then a else b)]]) (zyu .i64 (d + 1)) < i c d)) : Prop)))))) else Q (.t [.l 2 c, .i 0]) [])) : Prop)))) : PRun Tryz.prog 184 [] [(q22 k l m e n o p), .i h, .i a] Q :=
 zad zp6 Tryz.func184 (by kernel_rfl) (H := ⟨[((184, 5, 2), ⟨[(8, .one (.ow 112 2)), (24, .I)], []⟩)], [], [], [], [], false, 64, KN.no, false, SP.no⟩) (n := 2) (by kernel_rfl) hh
theorem S185 {e a c : Int} {f : List (List U)} (hh : PRun Tryz.prog 285 [] [(q22 d e a f g h i), .l 3 [[.n b, .n 0, .n 10], [.n c, .n 1, .n 1000]]] (post [.B] [] (fun j => (bif !j then Q (.t [.i 0, .i 1]) [] else PRun Tryz.prog 286 [] [.i (zyu .i64 (a * c)), .i (zyu .i64 (100 - zyu .i64 (2 * b))), .i 100, .u (.b true)] (post q10 [] (fun k l => (Q (.t [.i k, .i l]) [] : Prop))) : Prop)))) : PRun Tryz.prog 185 [] [(q22 d e a f g h i), .i b, .i c] Q :=
 zad zp6 Tryz.func185 (by kernel_rfl) (H := ⟨[], [], [], [], [], false, 64, KN.no, false, SP.no⟩) (n := 2) (by kernel_rfl) hh
theorem S332 (hh : ∃ (b : Int → Prop) (d : Int → Nat), b 0 ∧ (∀ a : Int, b a → (bif decide (a < (zyv e : Int)) then elL e a (fun c => dI .i64 (ug c 0) (fun f => dI .i64 (ug c 1) (fun g => dI .i64 (ug c 2) (fun h => (bif decide (f < g) then Q (.u (.b false)) [] else (bif decide (f > h) then Q (.u (.b false)) [] else b (zyu .i64 (a + 1)) ∧ d (zyu .i64 (a + 1)) < d a)))))) else Q (.u (.b true)) []))) : PRun Tryz.prog 332 [] [.l 3 e] Q :=
 zad zp6 Tryz.func332 (by kernel_rfl) (H := ⟨[((332, 2, 0), ⟨[(7, .I)], []⟩)], [], [], [], [], false, 64, KN.no, false, SP.no⟩) (n := 2) (by kernel_rfl) hh
theorem S270 {e a : Int} (hh : PRun Tryz.prog 332 [] [.l 3 [[.n a, .n 0, .n 32], [.n b, .n 1, .n a], [.n d, .n 1, .n 1048576], [.n e, .n 1, .n 1048576], [.n f, .n 0, .n 1048576], [.n g, .n 0, .n 1048576], [.n h, .n 1, .n 1000]]] (post [.B] [] (fun i => (bif !i then Q (.i 1) [] else PRun Tryz.prog 168 [] [.l 2 c, .i a] (post q7 [] (fun j => (bif j != 0 then Q (.i 1) [] else PRun Tryz.prog 333 [] [.l 2 c, .i b] (post q7 [] (fun k => (bif decide (k > 0) then Q (.i 1) [] else Q (.i 0) [] : Prop))) : Prop))) : Prop)))) : PRun Tryz.prog 270 [] [(q22 b d e c f g h), .i a] Q :=
 zad zp6 Tryz.func270 (by kernel_rfl) (H := ⟨[], [], [], [], [], false, 64, KN.no, false, SP.no⟩) (n := 2) (by kernel_rfl) hh
end
section
variable {Q : V → Mem → Prop}
def eS (x : Stk) : List U := [.n x.1, .n x.2]
abbrev Bnd := Int × Int × Int
def eF (x : Bnd) : List U := [.n x.1, .n x.2.1, .n x.2.2]
def inn (n a b : Int) : Bool := decide (a ≤ n ∧ n ≤ b)
theorem zgr {a : Int} : inn n a b = true ↔ a ≤ n ∧ n ≤ b := by simp [inn]
def ze0 (l : List Bnd) : Bool := l.all fun x => inn x.1 x.2.1 x.2.2
theorem fits_S {L : List Bnd} (hL : L.length ≤ 1000000) (k : Q (.u (.b (ze0 L))) []) : PRun Tryz.prog 332 [] [.l 3 (L.map eF)] Q := by
 refine S332 ⟨SufI L fun l => Q (.u (.b (ze0 l))) [], zq1 L, .zero (by omega) k, ?_⟩
 rintro x ⟨_ | ⟨a, l⟩, s, k⟩
 · rw [s.d0]; exact k
 · simp only [s.d1, s.el, eF, ug0, ugs, zbs, cond_true]
   rw [show ze0 (a :: l) = (inn a.1 a.2.1 a.2.2 && ze0 l) from rfl] at k
   refine cIf (fun h1 => ?_) fun h1 => cIf (fun h2 => ?_) fun h2 => s.step ?_
   iterate 2 rwa [show inn a.1 a.2.1 a.2.2 = false from decide_eq_false (by omega)] at k
   rwa [show inn a.1 a.2.1 a.2.2 = true from decide_eq_true (by omega)] at k
def zow (types : Int) : Int → List Stk → Bool
 | _, [] => true
 | last, s :: l => decide (last < s.1 ∧ s.1 ≤ types ∧ 1 ≤ s.2 ∧ s.2 ≤ 1125899906842624) && zow types s.1 l
def zfe (l : List Stk) (types : Int) : Int := if zow types 0 l = true ∧ l.length ≤ 8 then 0 else 1
theorem zhj (hL : L.length ≤ 1000000) (k : Q (.i (zfe L types)) []) : PRun Tryz.prog 168 [] [.l 2 (L.map eS), .i types] Q := by
 refine S168 ⟨fun last x => SufI L (fun l => zow types 0 L = zow types last l) x, fun _ => zq1 L, .zero (by omega) rfl, ?_⟩
 rintro last x ⟨_ | ⟨a, l⟩, s, k2⟩
 · rw [s.d0, zy2]
   refine cIf (fun h => ?_) fun h => ?_
   · simpa [zfe, show ¬ L.length ≤ 8 by omega] using k
   · simpa [zfe, k2, zow, show L.length ≤ 8 by omega] using k
 · simp only [s.d1, s.el, eS, ug0, ugs, zbs, cond_true]
   have bad : zow types last (a :: l) = false → Q (.i 1) [] := fun h => by simpa [zfe, k2, h] using k
   refine cIf (fun h => ?_) fun h1 => cIf (fun h => ?_) fun h2 => cIf (fun h => ?_) fun h3 => cIf (fun h => ?_) fun h4 => s.step ?_
   iterate 4 exact bad (by simp only [zow, z1v, decide_eq_false_iff_not]; omega)
   rw [k2, zow, decide_eq_true (by omega), Bool.true_and]
end
section
set_option maxRecDepth 100000
theorem zr4 : Tryz.prog.follows .mixedOrders = true := by kernel_rfl
theorem S290p {b f : List (List U)} {c : List Int} (hh : PRun Tryz.prog 76 [] [(q16 h i j 1)] (post [.B] [] (fun p => (bif !p then Q (.i 1) (q15 b c) else PRun Tryz.prog 168 [] [.l 2 f, .i 32] (post q7 [] (fun q => (bif q != 0 then Q (.i 1) (q15 b c) else ∃ (g : Int → List (List U) → List Int → Prop) (k : Int → List (List U) → List Int → Nat), g 0 b c ∧ (∀ a : Int, ∀ d : List (List U), ∀ e : List Int, g a d e → (bif decide (a < (zyv f : Int)) then elL f a (fun l => dI .i64 (ug l 0) (fun r => dI .i64 (ug l 1) (fun s => PRun Tryz.prog 205 (q15 d e) [.r 0 0, q16 h i j r, .i s] (post q7 q3 (fun m n o => (bif m != 0 then Q (.i m) (q15 b c) else g (zyu .i64 (a + 1)) n o ∧ k (zyu .i64 (a + 1)) n o < k a d e : Prop)))))) else Q (.i 0) (q15 d e))) : Prop))) : Prop)))) : PRun Tryz.prog 290 (q15 b c) [.r 0 0, q16 h i j t, .l 2 f, .f 205 [] []] Q :=
 zad zr4 Tryz.func290 (by kernel_rfl) (H := ⟨[((290, 5, 5), ⟨[(31, .I)], [(0, .c [.l 5, .n 33])]⟩)], [], [341], [], [], false, 64, KN.no, false, SP.no⟩) (n := 3) (by kernel_rfl) hh
theorem S290t {b f : List (List U)} {c : List Int} (hh : PRun Tryz.prog 76 [] [(q16 h i j 1)] (post [.B] [] (fun p => (bif !p then Q (.i 1) (q15 b c) else PRun Tryz.prog 168 [] [.l 2 f, .i 32] (post q7 [] (fun q => (bif q != 0 then Q (.i 1) (q15 b c) else ∃ (g : Int → List (List U) → List Int → Prop) (k : Int → List (List U) → List Int → Nat), g 0 b c ∧ (∀ a : Int, ∀ d : List (List U), ∀ e : List Int, g a d e → (bif decide (a < (zyv f : Int)) then elL f a (fun l => dI .i64 (ug l 0) (fun r => dI .i64 (ug l 1) (fun s => PRun Tryz.prog 291 (q15 d e) [.r 0 0, q16 h i j r, .i s] (post q7 q3 (fun m n o => (bif m != 0 then Q (.i m) (q15 b c) else g (zyu .i64 (a + 1)) n o ∧ k (zyu .i64 (a + 1)) n o < k a d e : Prop)))))) else Q (.i 0) (q15 d e))) : Prop))) : Prop)))) : PRun Tryz.prog 290 (q15 b c) [.r 0 0, q16 h i j t, .l 2 f, .f 291 [] []] Q :=
 zad zr4 Tryz.func290 (by kernel_rfl) (H := ⟨[((290, 5, 5), ⟨[(31, .I)], [(0, .c [.l 5, .n 33])]⟩)], [], [341], [], [], false, 64, KN.no, false, SP.no⟩) (n := 3) (by kernel_rfl) hh
theorem S193 {g : List (List U)} {b : List Int} {c e : Int} (hh : PRun Tryz.prog 290 (q15 a b) [.r 0 0, q16 c d e f, .l 2 g, .f 205 [] []] (post q7 q3 (fun h i j => (Q (.i h) (q15 i j) : Prop)))) : PRun Tryz.prog 193 (q15 a b) [.r 0 0, q16 c d e f, .l 2 g] Q :=
 zad zr4 Tryz.func193 (by kernel_rfl) (H := ⟨[], [], [], [], [], false, 64, KN.no, false, SP.no⟩) (n := 2) (by kernel_rfl) hh
theorem S192 {g : List (List U)} {b : List Int} {c e : Int} (hh : PRun Tryz.prog 290 (q15 a b) [.r 0 0, q16 c d e f, .l 2 g, .f 291 [] []] (post q7 q3 (fun h i j => (Q (.i h) (q15 i j) : Prop)))) : PRun Tryz.prog 192 (q15 a b) [.r 0 0, q16 c d e f, .l 2 g] Q :=
 zad zr4 Tryz.func192 (by kernel_rfl) (H := ⟨[], [], [], [], [], false, 64, KN.no, false, SP.no⟩) (n := 2) (by kernel_rfl) hh
end
section
variable {Q : V → Mem → Prop}
theorem total_B (k1 : 1 ≤ d → d ≤ 32 → Q (.i (tyQ d l)) [bK l]) (k2 : d < 1 ∨ 32 < d → Q (.i 0) [bK l]) : PRun Tryz.prog 14 [bK l] [.r 0 0, .i d] Q := by
 refine S14 (cIf (fun h1 => zhp (cIf (fun h2 => ⟨by omega, by omega, ?_⟩) fun h2 => k2 (by omega))) fun h1 => k2 (by omega))
 rw [zah (r := tyQ d l) (by omega) (zdk l (by omega))]
 exact k1 (by omega) (by omega)
abbrev bin (x : K4) (t : Int) : K4 := ⟨x.a, x.b, x.c, t⟩
def zjq (x : K4) : List Stk → Tb → Option Tb
 | [], l => some l
 | s :: r, l => if tyQ s.1 l + s.2 ≤ 1125899906842624 then zjq x r (zez (bin x s.1) (zam (bin x s.1) l + s.2) l) else none
def zb5 (x : K4) : List Stk → Tb → Option Tb
 | [], l => some l
 | s :: r, l => if s.2 ≤ zam (bin x s.1) l then zb5 x r (zez (bin x s.1) (zam (bin x s.1) l + -s.2) l) else none
theorem zmg (h : zfe L types = 0) : ∀ s ∈ L, 1 ≤ s.1 ∧ s.1 ≤ types ∧ 1 ≤ s.2 ∧ s.2 ≤ 1125899906842624 := by
 have h1 : zow types 0 L = true := by
  unfold zfe at h
  split at h
  · rename_i hh; exact hh.1
  · cases h
 have : ∀ (l : List Stk) (last : Int), 0 ≤ last → zow types last l = true → ∀ s ∈ l, 1 ≤ s.1 ∧ s.1 ≤ types ∧ 1 ≤ s.2 ∧ s.2 ≤ 1125899906842624 := by
  intro l
  induction l with
  | nil => intro _ _ _ s hs; simp at hs
  | cons a l ih =>
    intro last h0 hc s hs
    simp only [zow, zyy, decide_eq_true_eq] at hc
    rcases zy3.1 hs with rfl | hs
    · omega
    · exact ih a.1 (by omega) hc.2 s hs
 exact this L 0 (zzk _) h1
theorem zgq (h : isB (bin x 1) = true) (ht : 1 ≤ t ∧ t ≤ 32) : isB (bin x t) = true := by
 simp only [isB, zyy, decide_eq_true_eq] at h ⊢
 omega
theorem putAll_B (h : BInv l) (hl : l.length ≤ 900000) (hL : L.length ≤ 1000)
 (k1 : isB (bin x 1) = false ∨ zfe L 32 ≠ 0 → Q (.i 1) [bK l]) (k2 : isB (bin x 1) = true → zfe L 32 = 0 → zjq x L l = none → Q (.i 5) [bK l])
 (k3 : ∀ l', isB (bin x 1) = true → zfe L 32 = 0 → zjq x L l = some l' → BInv l' → l'.length ≤ l.length + L.length → Q (.i 0) [bK l']) :
 PRun Tryz.prog 193 [bK l] [.r 0 0, kV x, .l 2 (L.map eS)] Q := by
 refine S193 (S290p (zxn (k := bin x 1) ?_))
 rw [zb7]
 cases hx : isB (bin x 1) with
 | false => exact k1 (.inl hx)
 | true =>
   show PRun _ _ _ _ _
   refine zhj (by omega) ?_
   rw [zaw]
   by_cases hc : zfe L 32 = 0
   · rw [hc]
     have hm := zmg hc
     refine ⟨fun i rows a => SufI L (fun r => (∀ s ∈ r, s ∈ L) ∧ ∃ lt, rows = lt.map eT ∧ a = zfl lt ∧ BInv lt ∧ lt.length + r.length ≤ l.length + L.length ∧ zjq x r lt = zjq x L l) i, fun i _ _ => zq1 L i, .zero (by omega) ⟨fun s hs => hs, l, rfl, rfl, h, zy9 _, rfl⟩, ?_⟩
     rintro i _ _ ⟨r, s, hsub, lt, rfl, rfl, hi, hln, hp⟩
     cases r with
     | nil =>
       rw [s.d0]
       exact k3 lt hx hc hp.symm hi (by simpa using hln)
     | cons q r =>
       simp only [zzg] at hln
       have hq := hm q (hsub q (by simp))
       simp only [s.d1, s.el, eS, ug0, ugs, zbs, cond_true]
       refine put_B (k := bin x q.1) hi (by omega) (fun hb => ?_) (fun _ _ hb => ?_) fun _ _ hb => ?_
       · rw [zgq hx (by omega)] at hb; rcases hb with hb | hb
         · cases hb
         · omega
       · have e : zjq x L l = none := by rw [← hp]; simp only [zjq]; rw [if_neg (by simp only at hb; omega)]
         exact k2 hx hc e
       · refine s.step ?_
         refine ⟨fun t ht => hsub t (by simp [ht]), _, rfl, rfl, hi.set (zgq hx (by omega)) (by have := (hi.val (bin x q.1)).1; omega) hb, by have := zhr (k := bin x q.1) (v := zam (bin x q.1) lt + q.2) (l := lt); omega, ?_⟩
         rw [← hp]
         simp only [zjq]
         rw [if_pos hb]
   · have e : (zfe L 32 != 0) = true := by simpa using hc
     rw [e]
     exact k1 (.inr hc)
end
section
variable {Q : V → Mem → Prop}
theorem zni (h : BInv l) (hl : l.length ≤ 900000) (hL : L.length ≤ 1000)
 (k1 : isB (bin x 1) = false ∨ zfe L 32 ≠ 0 → Q (.i 1) [bK l]) (k2 : isB (bin x 1) = true → zfe L 32 = 0 → zb5 x L l = none → Q (.i 7) [bK l])
 (k3 : ∀ l', isB (bin x 1) = true → zfe L 32 = 0 → zb5 x L l = some l' → BInv l' → l'.length ≤ l.length + L.length → Q (.i 0) [bK l']) :
 PRun Tryz.prog 192 [bK l] [.r 0 0, kV x, .l 2 (L.map eS)] Q := by
 refine S192 (S290t (zxn (k := bin x 1) ?_))
 rw [zb7]
 cases hx : isB (bin x 1) with
 | false => exact k1 (.inl hx)
 | true =>
   show PRun _ _ _ _ _
   refine zhj (by omega) ?_
   rw [zaw]
   by_cases hc : zfe L 32 = 0
   · rw [hc]
     have hm := zmg hc
     refine ⟨fun i rows a => SufI L (fun r => (∀ s ∈ r, s ∈ L) ∧ ∃ lt, rows = lt.map eT ∧ a = zfl lt ∧ BInv lt ∧ lt.length + r.length ≤ l.length + L.length ∧ zb5 x r lt = zb5 x L l) i, fun i _ _ => zq1 L i, .zero (by omega) ⟨fun s hs => hs, l, rfl, rfl, h, zy9 _, rfl⟩, ?_⟩
     rintro i _ _ ⟨r, s, hsub, lt, rfl, rfl, hi, hln, hp⟩
     cases r with
     | nil =>
       rw [s.d0]
       exact k3 lt hx hc hp.symm hi (by simpa using hln)
     | cons q r =>
       simp only [zzg] at hln
       have hq := hm q (hsub q (by simp))
       simp only [s.d1, s.el, eS, ug0, ugs, zbs, cond_true]
       refine take_B (k := bin x q.1) hi (by omega) (fun hb => ?_) (fun _ _ hb => ?_) fun _ _ hb => ?_
       · rw [zgq hx (by omega)] at hb; rcases hb with hb | hb
         · cases hb
         · omega
       · have e : zb5 x L l = none := by rw [← hp]; simp only [zb5]; rw [if_neg (by have hb' : zam (bin x q.1) lt < q.2 := hb; omega)]
         exact k2 hx hc e
       · refine s.step ?_
         refine ⟨fun t ht => hsub t (by simp [ht]), _, rfl, rfl, hi.set (zgq hx (by omega)) (by have hb' : q.2 ≤ zam ⟨x.a, x.b, x.c, q.1⟩ lt := hb; omega) (by have := hi.top q.1; simp only; omega), by have := zhr (k := bin x q.1) (v := zam (bin x q.1) lt + -q.2) (l := lt); omega, ?_⟩
         rw [← hp]
         simp only [zb5]
         rw [if_pos hb]
   · have e : (zfe L 32 != 0) = true := by simpa using hc
     rw [e]
     exact k1 (.inr hc)
end
section
variable {Q : V → Mem → Prop}
def accs (l : Tb) : List (List U) := l.map fun r => [.n r.1.a, .n r.2]
structure PInv (l : Tb) (n : Int) : Prop where
 srt : Srt l
 key : ∀ r ∈ l, r.1 = oK r.1.a ∧ 0 ≤ r.1.a ∧ r.1.a ≤ 1099511627776 ∧ 0 ≤ r.2
 sum : n = zfi l
 top : n ≤ 1152921504606846976
theorem zk0 : ∀ {l : Tb}, (∀ r ∈ l, 0 ≤ r.2) → 0 ≤ zfi l
 | [], _ => zzk _
 | r :: l, h => by
   have h1 := h r zzq
   have h2 := zk0 (l := l) fun s hs => h s (zzo _ hs)
   simp only [zfi]; omega
theorem zu5 {k : K4} : ∀ {l : Tb}, (∀ r ∈ l, 0 ≤ r.2) → 0 ≤ zam k l ∧ zam k l ≤ zfi l
 | [], _ => ⟨zzk _, zzk _⟩
 | r :: l, h => by
   have h1 := h r zzq
   have h3 := zk0 (l := l) fun s hs => h s (zzo _ hs)
   have h2 := zu5 (k := k) (l := l) fun s hs => h s (zzo _ hs)
   simp only [zam, zau, zfi] at *
   by_cases e : r.1 = k
   · rw [if_pos e, zz8]; omega
   · rw [if_neg e]; omega
theorem PInv.val (h : PInv l n) (o : Int) : 0 ≤ zam (oK o) l ∧ zam (oK o) l ≤ n := by
 have := zu5 (k := oK o) (l := l) fun r hr => (h.key r hr).2.2.2
 rw [h.sum]; exact this
theorem PInv.nn (h : PInv l n) : 0 ≤ n := by rw [h.sum]; exact zk0 fun r hr => (h.key r hr).2.2.2
theorem PInv.put {o : Int} (h : PInv l n) (ho : 0 ≤ o ∧ o ≤ 1099511627776) (hv : 0 ≤ v) (ht : n + v - zam (oK o) l ≤ 1152921504606846976) : PInv (zdb (oK o) v l) (n + v - zam (oK o) l) where
 srt := zhc h.srt
 key r hr := by
  rcases zhd hr with e | e
  · subst e; exact ⟨rfl, ho.1, ho.2, hv⟩
  · exact h.key r e
 sum := by rw [zq8 h.srt, h.sum]
 top := ht
end
section
set_option maxRecDepth 100000
theorem mixTm : Tryz.prog.follows .mixedOrders = true := by kernel_rfl
theorem S195 (hh : PRun Tryz.prog 172 [.c [.l 5 e, .i f]] [.r 0 0, .i g] (post q10 q9 (fun h c a b => (bif c != 0 then Q (.i c) [.c [.l 5 a, .i b]] else (bif decide (d < 0) then Q (.i 1) [.c [.l 5 a, .i b]] else (bif decide (d > h) then Q (.i 6) [.c [.l 5 a, .i b]] else Q (.i 0) [.c [.l 5 a, .i b]])) : Prop)))) : PRun Tryz.prog 195 [.c [.l 5 e, .i f]] [.r 0 0, .i g, .i d] Q :=
 zad mixTm Tryz.func195 (by kernel_rfl) (H := ⟨[], [], [], [], [], false, 64, KN.no, false, SP.no⟩) (n := 2) (by kernel_rfl) hh
theorem S89 {e k : Int} (hh : ∃ (d : Int → List (List U) → Int → Prop) (j : Int → List (List U) → Int → Nat), d 0 o p ∧ (∀ a : Int, ∀ b : List (List U), ∀ c : Int, d a b c → (bif decide (a < 2) then 0 ≤ a ∧ a < 2 ∧ (elL ([[.n e], [.n k]] : List (List U)) a (fun q => dI .i64 (ug q 0) (fun r => PRun Tryz.prog 172 [.c [.l 5 b, .i c]] [.r 0 0, .i r] (post q10 q9 (fun w l f g => (bif l != 0 then Q (.i l) [.c [.l 5 f, .i g]] else d (zyu .i64 (a + 1)) f g ∧ j (zyu .i64 (a + 1)) f g < j a b c : Prop)))))) else PRun Tryz.prog 195 [.c [.l 5 b, .i c]] [.r 0 0, .i e, .i h] (post q7 q9 (fun i m n => (bif i == 0 then PRun Tryz.prog 174 [.c [.l 5 m, .i n]] [.r 0 0, .i e, .i (zyu .i64 (0 - h))] (post [] q9 (fun s t => (PRun Tryz.prog 174 [.c [.l 5 s, .i t]] [.r 0 0, .i k, .i h] (post [] q9 (fun u v => (Q (.i i) [.c [.l 5 u, .i v]] : Prop))) : Prop))) else Q (.i i) [.c [.l 5 m, .i n]] : Prop)))))) : PRun Tryz.prog 89 [.c [.l 5 o, .i p]] [.r 0 0, .i e, .i k, .i h] Q :=
 zad mixTm Tryz.func89 (by kernel_rfl) (H := ⟨[((89, 2, 2), ⟨[(18, .I)], [(0, .c [.l 5, .i .i64])]⟩)], [], [], [], [], false, 64, KN.no, false, SP.no⟩) (n := 2) (by kernel_rfl) hh
theorem S189 {c a : Int} (hh : PRun Tryz.prog 288 [] [.i c] (post q7 [] (fun b => (bif b == 0 then Q (.t [.i 0, .i 1]) [] else (bif decide (a < 1) then Q (.t [.i 0, .i 1]) [] else (bif decide (a ≥ 1048576) then Q (.t [.i 0, .i 1]) [] else Q (.t [.i (zyu .i64 (b + a)), .i 0]) [])) : Prop)))) : PRun Tryz.prog 189 [] [.i c, .i a] Q :=
 zad mixTm Tryz.func189 (by kernel_rfl) (H := ⟨[], [], [], [], [], false, 64, KN.no, false, SP.no⟩) (n := 2) (by kernel_rfl) hh
end
section
variable {Q : V → Mem → Prop}
def zql (o : Int) (l : Tb) : Bool := (zau (oK o) l).isSome
def zn0 (o n : Int) (l : Tb) : Int := if zql o l then (if n < 0 then 1 else if zam (oK o) l < n then 6 else 0) else 3
def zgm (f t n : Int) (l : Tb) : Int := if zql f l && zql t l then zn0 f n l else 3
def zwy (f t n : Int) (l : Tb) : Tb := zdb (oK t) (zam (oK t) (zdb (oK f) (zam (oK f) l + -n) l) + n) (zdb (oK f) (zam (oK f) l + -n) l)
theorem zkj {o : Int} (h : zn0 o n l = 0) : zql o l = true ∧ 0 ≤ n ∧ n ≤ zam (oK o) l := by
 unfold zn0 at h
 split at h
 · rename_i h1
   split at h
   · cases h
   · split at h
     · cases h
     · exact ⟨h1, by omega, by omega⟩
 · cases h
theorem zke (h : zgm f t n l = 0) : zql f l = true ∧ zql t l = true ∧ 0 ≤ n ∧ n ≤ zam (oK f) l := by
 unfold zgm at h
 split at h
 · rename_i h1
   simp only [zyy] at h1
   exact ⟨h1.1, h1.2, (zkj h).2⟩
 · cases h
theorem PInv.own {o : Int} (h : PInv l n) (ho : zql o l = true) : 0 ≤ o ∧ o ≤ 1099511627776 := by
 obtain ⟨v, hv⟩ := z2k.1 ho
 have := h.key _ (zen hv)
 exact ⟨this.2.1, this.2.2.1⟩
theorem PInv.move {n0 : Int} (h : PInv l n0) (e : zgm f t n l = 0) : PInv (zwy f t n l) n0 := by
 obtain ⟨h1, h2, h3, h4⟩ := zke e
 have hv := h.val f
 have p1 : PInv (zdb (oK f) (zam (oK f) l + -n) l) (n0 + -n) := by
  have := h.put (o := f) (v := zam (oK f) l + -n) (h.own h1) (by omega) (by have := h.top; omega)
  rwa [show n0 + (zam (oK f) l + -n) - zam (oK f) l = n0 + -n by omega] at this
 have hv2 := p1.val t
 have := p1.put (o := t) (v := zam (oK t) (zdb (oK f) (zam (oK f) l + -n) l) + n) (h.own h2) (by omega) (by have := h.top; omega)
 rwa [show n0 + -n + (zam (oK t) (zdb (oK f) (zam (oK f) l + -n) l) + n) - zam (oK t) (zdb (oK f) (zam (oK f) l + -n) l) = n0 by omega] at this
theorem zhy (hs : Srt l) (h : (zau k l).isSome = true) : (zdb k v l).length = l.length := by
 obtain ⟨w, hw⟩ := z2k.1 h
 have hr := (zyz.1 (zdl hs hw)).1
 rw [zpk hs, h]
 simp
 omega
theorem zwx (hs : Srt l) (e : zgm f t n l = 0) : (zwy f t n l).length = l.length := by
 obtain ⟨h1, h2, h3, h4⟩ := zke e
 unfold zwy
 rw [zhy (zhc hs), zhy hs h1]
 rw [zk2 _ hs]
 split
 · rfl
 · exact h2
theorem may_S {n0 o : Int} (h : PInv l n0) (hl : l.length ≤ 1000000) (k : Q (.i (zn0 o n l)) [pC l n0]) : PRun Tryz.prog 195 [pC l n0] [.r 0 0, .i o, .i n] Q := by
 refine S195 (zis h.srt hl ?_)
 show (bif (if (zau (oK o) l).isSome = true then (0 : Int) else 3) != 0 then _ else _ : Prop)
 unfold zn0 zql at k
 by_cases hg : (zau (oK o) l).isSome = true
 · rw [if_pos hg]
   rw [if_pos hg] at k
   refine cNe (fun h => absurd rfl h) fun _ => cIf (fun h1 => by rwa [if_pos h1] at k) fun h1 => cIf (fun h2 => ?_) fun h2 => ?_
   · rw [if_neg h1, if_pos (show zam (oK o) l < n from h2)] at k; exact k
   · rw [if_neg h1, if_neg (show ¬ zam (oK o) l < n from h2)] at k; exact k
 · rw [if_neg hg]
   rw [if_neg hg] at k
   exact k
theorem move_S {n0 : Int} (h : PInv l n0) (hl : l.length ≤ 900000) (k1 : zgm f t n l ≠ 0 → Q (.i (zgm f t n l)) [pC l n0]) (k2 : zgm f t n l = 0 → Q (.i 0) [pC (zwy f t n l) n0]) :
 PRun Tryz.prog 89 [pC l n0] [.r 0 0, .i f, .i t, .i n] Q := by
 refine S89 ⟨fun x l' y => l.map eT = l' ∧ n0 = y ∧ (x = 0 ∨ (x = 1 ∧ zql f l = true) ∨ (x = 2 ∧ zql f l = true ∧ zql t l = true)), fun x _ _ => (2 - x).toNat, ⟨rfl, rfl, .inl rfl⟩, ?_⟩
 rintro x _ _ ⟨rfl, rfl, hx⟩
 have bad : zql f l = false ∨ zql t l = false → Q (.i 3) [pC l n0] := fun hb => by
  have e : zgm f t n l = 3 := by
   unfold zgm
   rw [if_neg]
   rcases hb with hb | hb <;> simp [hb]
  rw [e] at k1
  exact k1 (by decide)
 rcases hx with rfl | ⟨rfl, hf⟩ | ⟨rfl, hf, ht⟩
 · refine cIf (fun _ => ⟨by decide, by decide, ?_⟩) fun h => absurd (by decide) h
   show PRun _ _ _ _ _
   refine zis h.srt (by omega) ?_
   show (bif (if (zau (oK f) l).isSome = true then (0 : Int) else 3) != 0 then Q (.i (if (zau (oK f) l).isSome = true then (0 : Int) else 3)) [pC l n0] else _ ∧ _ : Prop)
   by_cases hg : (zau (oK f) l).isSome = true
   · rw [if_pos hg]
     exact cNe (fun h => absurd rfl h) fun _ => ⟨⟨by first | trivial | rfl, by first | trivial | rfl, .inr (.inl ⟨rfl, hg⟩)⟩, by dsimp only; decide⟩
   · rw [if_neg hg]
     exact bad (.inl (by unfold zql; simpa using hg))
 · refine cIf (fun _ => ⟨by decide, by decide, ?_⟩) fun h => absurd (by decide) h
   show PRun _ _ _ _ _
   refine zis h.srt (by omega) ?_
   show (bif (if (zau (oK t) l).isSome = true then (0 : Int) else 3) != 0 then Q (.i (if (zau (oK t) l).isSome = true then (0 : Int) else 3)) [pC l n0] else _ ∧ _ : Prop)
   by_cases hg : (zau (oK t) l).isSome = true
   · rw [if_pos hg]
     exact cNe (fun h => absurd rfl h) fun _ => ⟨⟨by first | trivial | rfl, by first | trivial | rfl, .inr (.inr ⟨rfl, hf, hg⟩)⟩, by dsimp only; decide⟩
   · rw [if_neg hg]
     exact bad (.inr (by unfold zql; simpa using hg))
 · refine cIf (fun h => absurd h (by decide)) fun _ => ?_
   refine may_S h (by omega) ?_
   show (bif zn0 f n l == 0 then PRun _ _ _ _ _ else _ : Prop)
   have em : zgm f t n l = zn0 f n l := by unfold zgm; rw [hf, ht]; rfl
   rw [em] at k1 k2
   refine cEq (fun h0 => ?_) fun h0 => k1 h0
   obtain ⟨-, g1, g2⟩ := zkj h0
   have hv := h.val f
   have htop := h.top
   have hsum := h.nn
   have e1 : zyu .i64 (0 - n) = -n := by rw [w64 (by omega) (by omega)]; omega
   rw [e1]
   refine zyr h.srt (by omega) ?_
   rw [w64 (x := zam (oK f) l + -n) (by omega) (by omega), w64 (x := n0 + -n) (by omega) (by omega)]
   show PRun _ _ _ _ _
   have p1 : PInv (zdb (oK f) (zam (oK f) l + -n) l) (n0 + -n) := by
    have := h.put (o := f) (v := zam (oK f) l + -n) (h.own hf) (by omega) (by omega)
    rwa [show n0 + (zam (oK f) l + -n) - zam (oK f) l = n0 + -n by omega] at this
   have hv2 := p1.val t
   have htl := zk1 (k := oK f) (v := zam (oK f) l + -n) (l := l)
   refine zyr p1.srt (by omega) ?_
   rw [w64 (x := zam (oK t) (zdb (oK f) (zam (oK f) l + -n) l) + n) (by omega) (by omega), w64 (x := n0 + -n + n) (by omega) (by omega), show n0 + -n + n = n0 by omega]
   show Q (.i (zn0 f n l)) _
   rw [h0]
   exact k2 h0
end
section
set_option maxRecDepth 100000
theorem zr7 : Tryz.prog.follows .mixedOrders = true := by kernel_rfl
theorem S288 {a : Int} (hh : bif a == 1 then Q (.i 1048576) [] else (bif a == 2 then Q (.i 2097152) [] else Q (.i 0) [])) : PRun Tryz.prog 288 [] [.i a] Q :=
 zad zr7 Tryz.func288 (by kernel_rfl) (H := ⟨[], [], [], [], [], false, 64, KN.no, false, SP.no⟩) (n := 2) (by kernel_rfl) hh
theorem S26 (hh : Q (.t [.r 0 0, .i 0]) [.c [.nl 3, .m 1, .i 256, .i 1], .p .n 1 false []]) : PRun Tryz.prog 26 [] [.i 256] Q :=
 zad zr7 Tryz.func26 (by kernel_rfl) (H := ⟨[], [], [79], [], [], true, 64, KN.no, false, SP.no⟩) (n := 3) (by kernel_rfl) hh
theorem S25 {m : List (List U)} (hh : ∃ (i : Bool → Int → List (List U) → List Int → Prop) (j : Bool → Int → List (List U) → List Int → Nat), i false 0 [] (zzi 33 0) ∧ (∀ c : Bool, ∀ b : Int, ∀ e : List (List U), ∀ f : List Int, i c b e f → (bif decide (b < (zyv m : Int)) then elL m b (fun g => dI .i64 (ug g 0) (fun n => dI .i64 (ug g 1) (fun o => dI .i64 (ug g 2) (fun p => dI .i64 (ug g 3) (fun a => dI .i64 (ug g 4) (fun d => PRun Tryz.prog 76 [] [(q16 n o p a)] (post [.B] [] (fun q => (bif !q then Q (.t [.u (.p none), .i 1]) [] else (bif decide (d ≥ 1) then (bif !(decide (d ≤ 1125899906842624)) then Q (.t [.u (.p none), .i 1]) [] else PRun Tryz.prog 77 (q15 e f) [.r 0 0, q16 n o p a, .i d] (post [.B] q3 (fun r k h => (bif !r then Q (.t [.u (.p none), .i 1]) [] else 0 ≤ a ∧ a < (33 : Int) ∧ (elL h a (fun l => (bif decide (zyu .i64 (l + d) > 1125899906842624) then 0 ≤ a ∧ a < (33 : Int) ∧ (i true (zyu .i64 (b + 1)) k (zzb h (zyx a) 1125899906842624) ∧ j true (zyu .i64 (b + 1)) k (zzb h (zyx a) 1125899906842624) < j c b e f) else 0 ≤ a ∧ a < (33 : Int) ∧ (i c (zyu .i64 (b + 1)) k (zzb h (zyx a) (zyu .i64 (l + d))) ∧ j c (zyu .i64 (b + 1)) k (zzb h (zyx a) (zyu .i64 (l + d))) < j c b e f)))) : Prop)))) else Q (.t [.u (.p none), .i 1]) []) : Prop))))))))) else (bif c then Q (.t [.u (.p none), .i 5]) [] else Q (.t [.r 0 0, .i 0]) (q15 e f))))) : PRun Tryz.prog 25 [] [.l 5 m] Q :=
 zad zr7 Tryz.func25 (by kernel_rfl) (H := ⟨[((25, 4, 1), ⟨[(5, .B), (13, .I)], [(0, .c [.l 5, .n 33])]⟩)], [], [42, 78], [], [], false, 64, KN.no, false, SP.no⟩) (n := 3) (by kernel_rfl) hh
theorem S77 {i : List Int} {c e : Int} (hh : PRun Tryz.prog 277 [] [.l 5 a, q16 c d e f, .f 278 [] []] (post q12 [] (fun b h => (0 ≤ b ∧ (b ≤ (zyv a : Int) ∧ (zyv a : Int) ≤ (zyv a : Int) ∧ (bif h then 0 ≤ (1 : Int) ∧ ((1 : Int) ≤ (zyv (List.drop (zyx b) (List.take (zyv a) a)) : Int) ∧ (zyv (List.drop (zyx b) (List.take (zyv a) a)) : Int) ≤ (zyv (List.drop (zyx b) (List.take (zyv a) a)) : Int) ∧ ((0 : Int) ≤ b ∧ b ≤ (zyv a : Int) ∧ b = b ∧ (zan (List.take (zyx b) a) [(q19 c d e f g)] ∧ (zan (List.take (zyx b) a ++ [(q19 c d e f g)]) (List.drop 1 (List.take (zyv (List.drop (zyx b) (List.take (zyv a) a))) (List.drop (zyx b) (List.take (zyv a) a)))) ∧ (Q (.u (.b (!h))) (q31 i (List.take (zyx b) a ++ [(q19 c d e f g)] ++ List.drop 1 (List.take (zyv (List.drop (zyx b) (List.take (zyv a) a))) (List.drop (zyx b) (List.take (zyv a) a)))))))))) else (0 : Int) ≤ b ∧ b ≤ (zyv a : Int) ∧ b = b ∧ (zan (List.take (zyx b) a) [(q19 c d e f g)] ∧ (zan (List.take (zyx b) a ++ [(q19 c d e f g)]) (List.drop (zyx b) (List.take (zyv a) a)) ∧ (Q (.u (.b (!h))) (q31 i (List.take (zyx b) a ++ [(q19 c d e f g)] ++ List.drop (zyx b) (List.take (zyv a) a)))))))) : Prop)))) : PRun Tryz.prog 77 (q15 a i) [.r 0 0, q16 c d e f, .i g] Q :=
 zad zr7 Tryz.func77 (by kernel_rfl) (H := ⟨[], [], [175, 264], [], [], false, 64, KN.no, false, SP.no⟩) (n := 4) (by kernel_rfl) hh
end
section
set_option maxRecDepth 100000
variable {Q : V → Mem → Prop}
theorem zu8 {α : Type} {l : List α} {i : Nat} {x : α} (h : l[i]? = some x) : l.take (i + 1) = l.take i ++ [x] := by rw [z05, h]; rfl
theorem zhx {k : K4} {v : Int} : ∀ {t : Tb}, Srt (t ++ [(k, v)]) → ∀ w u, zdb k w t = t ++ [(k, w)] ∧ zau k t = none ∧ zdb k u (t ++ [(k, w)]) = t ++ [(k, u)] ∧ zau k (t ++ [(k, w)]) = some w
 | [], _, w, u => by
   refine ⟨rfl, rfl, ?_, ?_⟩
   · simp only [zz7, zdb, if_neg (K4.irr k), if_true]
   · simp only [zz7, zau, if_true]
 | r :: t, h, w, u => by
   have h : Srt (r :: (t ++ [(k, v)])) := h
   have h1 : r.1.lt k := h.head (k, v) (by simp)
   have h2 : ¬ r.1 = k := fun e => K4.irr k (by rwa [e] at h1)
   obtain ⟨i1, i2, i3, i4⟩ := zhx (t := t) h.tail w u
   simp only [zz6, zdb, zau, if_pos h1, if_neg h2, i1, i2, i3, i4]
   exact ⟨trivial, trivial, trivial, trivial⟩
theorem above_S {w : Int} (K : Q (.i (if w = 1 then 1048576 else if w = 2 then 2097152 else 0)) []) : PRun Tryz.prog 288 [] [.i w] Q := by
 refine S288 (cEq (fun h => ?_) fun h => cEq (fun h2 => ?_) fun h2 => ?_)
 · rwa [if_pos h] at K
 · rwa [if_neg h, if_pos h2] at K
 · rwa [if_neg h, if_neg h2] at K
theorem post_pII {F : Int → Int → List (List U) → Int → Prop} {x e : Int} : post [.I, .I] [.c [.l 5, .i .i64]] F (.t [.i x, .i e]) [pC l n] = F x e (l.map eT) n := rfl
theorem zwb {F : Int → List (List U) → Int → Prop} {e : Int} : post [.I] [.c [.l 5, .i .i64]] F (.i e) [pC l n] = F e (l.map eT) n := rfl
theorem addN_S {a : Int} (ha : 0 ≤ a) (hb : 0 ≤ b) (h : a + b ≤ 9223372036854775807) (k : Q (.t [.i (a + b), .i 0]) []) : PRun Tryz.prog 173 [] [.i a, .i b] Q := by
 refine S173 ?_
 rw [w64 (x := a + b) (by omega) (by omega), decide_eq_true (show a ≥ 0 from ha), decide_eq_true (show b ≥ 0 from hb), decide_eq_true (show a + b ≥ 0 by omega)]
 exact k
theorem give_S {o x : Int} (h : PInv l n) (hl : l.length ≤ 900000) (ho : (zau (oK o) l).isSome = true) (hx : 0 ≤ x) (ht : n + x ≤ 1152921504606846976) (K : Q (.i 0) [pC (zdb (oK o) (zam (oK o) l + x) l) (n + x)]) :
 PRun Tryz.prog 75 [pC l n] [.r 0 0, .i o, .i x] Q := by
 have hv := h.val o
 have hn := h.nn
 refine S75 (zis h.srt (by omega) ?_)
 rw [post_pII, if_pos ho]
 refine cNe (fun h => absurd rfl h) fun _ => cIf (fun h => by omega) fun _ => addN_S hn hx (by omega) ?_
 rw [zb1]
 refine cNe (fun h => absurd rfl h) fun _ => cIf (fun h => by omega) fun _ => zyr h.srt (by omega) ?_
 rw [w64 (x := zam (oK o) l + x) (by omega) (by omega), w64 (x := n + x) (by omega) (by omega)]
 exact K
theorem PInv.take (h : PInv l n) (i : Nat) : PInv (l.take i) (zfi (l.take i)) := by
 have e : zfi l = zfi (l.take i) + zfi (l.drop i) := by
  have : ∀ a b : Tb, zfi (a ++ b) = zfi a + zfi b := fun a b => by
   induction a with
   | nil => simp [zfi]
   | cons r a ih => simp only [zz6, zfi, ih]; omega
  rw [← this, z0h]
 have h1 := zk0 (l := l.drop i) fun r hr => (h.key r (z1s hr)).2.2.2
 have h2 := h.sum
 have h3 := h.top
 exact ⟨h.srt.sublist (z3i _ _), fun r hr => h.key r (z1r hr), rfl, by omega⟩
theorem purl_S (hl : l.length ≤ 900000) (h : PInv l n) (K : Q (.t [.r 0 0, .i 0]) [pC l n]) : PRun Tryz.prog 24 [] [.l 2 (accs l)] Q := by
 have hlen : ((accs l).length : Int) = (l.length : Int) := by unfold accs; rw [zy2]
 refine S24 ⟨fun b x rows a => ∃ i : Nat, b = false ∧ x = (i : Int) ∧ i ≤ l.length ∧ rows = (l.take i).map eT ∧ a = zfi (l.take i), fun _ x _ _ => (l.length - x).toNat, ⟨0, rfl, rfl, zzv _, rfl, rfl⟩, ?_⟩
 rintro _ _ _ _ ⟨i, rfl, rfl, hi, rfl, rfl⟩
 rw [hlen]
 have hP := h.take i
 refine cIf (fun hlt => ?_) fun hge => ?_
 · have hlt : i < l.length := by omega
   have hi2 := zy0 hlt
   generalize l[i] = r at hi2
   obtain ⟨k, v⟩ := r
   have hk := h.key _ (zy4 hi2)
   have hP2 := h.take (i + 1)
   rw [zu8 hi2] at hP2
   have hs := zhx hP2.srt
   have ek : k = oK k.a := hk.1
   have hk2 : 0 ≤ k.a ∧ k.a ≤ 1099511627776 := ⟨hk.2.1, hk.2.2.1⟩
   have hv : 0 ≤ v := hk.2.2.2
   have ts : zfi (l.take i ++ [(k, v)]) = zfi (l.take i) + v := by
    have : ∀ a : Tb, zfi (a ++ [(k, v)]) = zfi a + v := fun a => by
     induction a with
     | nil => simp [zfi]
     | cons r a ih => simp only [zz6, zfi, ih]; omega
    exact this _
   have htop := hP2.top
   have hn0 := hP.nn
   rw [zah (r := [.n k.a, .n v]) (by omega) (by unfold accs; rw [zzm, zy5, hi2]; rfl)]
   simp only [ug0, ugs, zbs]
   refine cIf (fun h => by omega) fun _ => cIf (fun h => by omega) fun _ => ?_
   have ho : zin k.a (l.take i) = 0 := by unfold zin; rw [if_neg (by omega), if_neg (by omega), ← ek, (hs 0 0).2.1]; rfl
   refine open_S (l := l.take i) (n := zfi (l.take i)) hP.srt (by rw [zz1]; omega) ?_
   rw [zwb, ho]
   have e0 : openL k.a (l.take i) = l.take i ++ [(k, 0)] := by unfold openL; rw [if_pos ho, ← ek]; exact (hs 0 0).1
   rw [e0]
   have hP0 : PInv (l.take i ++ [(k, 0)]) (zfi (l.take i)) := by
    have := hP.put (o := k.a) (v := 0) ⟨hk.2.1, hk.2.2.1⟩ (zzk _) (by have := (hP.val k.a).1; have := hP.top; omega)
    rw [← ek, (hs 0 0).1, show zam k (l.take i) = 0 by unfold zam; rw [(hs 0 0).2.1]; rfl] at this
    simpa using this
   have g0 : zau k (l.take i ++ [(k, 0)]) = some 0 := (hs 0 0).2.2.2
   refine cNe (fun h => absurd rfl h) fun _ => give_S (l := l.take i ++ [(k, 0)]) hP0 (by simp; omega) (by rw [← ek, g0]; rfl) hv (by omega) ?_
   have e1 : zdb (oK k.a) (zam (oK k.a) (l.take i ++ [(k, 0)]) + v) (l.take i ++ [(k, 0)]) = l.take (i + 1) := by
    rw [← ek, show zam k (l.take i ++ [(k, 0)]) = 0 by unfold zam; rw [g0]; rfl, z26, zu8 hi2, (hs 0 v).2.2.1]
   rw [e1, ← ts, ← zu8 hi2, zwb]
   have ew : zyu .i64 ((i : Int) + 1) = ((i + 1 : Nat) : Int) := w64n (by omega)
   rw [ew]
   exact cNe (fun h => absurd rfl h) fun _ => ⟨⟨i + 1, by first | trivial | rfl, rfl, by omega, rfl, rfl⟩, by omega⟩
 · have : i = l.length := by omega
   subst this
   rw [z0r, ← h.sum]
   exact K
theorem tputB_S {a : List Int} (hs : Srt l) (hl : l.length ≤ 900000) (K : Q (.u (.b (!(zau k l).isSome))) [bC (zdb k v l) a]) : PRun Tryz.prog 77 [bC l a] [.r 0 0, kV k, .i v] Q := by
 refine PRun.trim (PRun.frz 0 0 (S77 (zbt (k := k) hs (by omega) ?_)))
 exact zhi (k := k) (v := v) hs rfl (by omega) (K := fun rows => Q (.u (.b (!(zau k l).isSome))) (ztb 1 (.u (.b (!(zau k l).isSome))) (frzAt [.c [.w 1, .n .i64 33 a], .w 279 5 rows] 0 0))) K
theorem BInv.takeN (h : BInv l) (i : Nat) : BInv (l.take i) where
 srt := h.srt.sublist (z3i _ _)
 key r hr := h.key r (z1r hr)
 top d := by
  have e : tyQ d l = tyQ d (l.take i) + tyQ d (l.drop i) := by
   have : ∀ a b : Tb, tyQ d (a ++ b) = tyQ d a + tyQ d b := fun a b => by
    unfold tyQ
    induction a with
    | nil => simp [zd3]
    | cons r a ih => simp only [zz6, zd3, ih]; omega
   rw [← this, z0h]
  have h1 : 0 ≤ tyQ d (l.drop i) := zkz fun r hr => h.nn r (z1s hr)
  have := h.top d
  omega
theorem post_Bk {F : Bool → List (List U) → List Int → Prop} {x : Bool} {a : List Int} : post [.B] [.c [.l 5, .n 33]] F (.u (.b x)) [bC l a] = F x (l.map eT) a := rfl
theorem binl_S (hl : l.length ≤ 900000) (h : BInv l) (K : Q (.t [.r 0 0, .i 0]) [bK l]) : PRun Tryz.prog 25 [] [.l 5 (l.map eT)] Q := by
 have hlen : ((l.map eT).length : Int) = (l.length : Int) := by rw [zy2]
 refine S25 ⟨fun b x rows a => ∃ i : Nat, b = false ∧ x = (i : Int) ∧ i ≤ l.length ∧ rows = (l.take i).map eT ∧ a = zfl (l.take i), fun _ x _ _ => (l.length - x).toNat, ⟨0, rfl, rfl, zzv _, rfl, rfl⟩, ?_⟩
 rintro _ _ _ _ ⟨i, rfl, rfl, hi, rfl, rfl⟩
 rw [hlen]
 have hP := h.takeN i
 refine cIf (fun hlt => ?_) fun hge => ?_
 · have hlt : i < l.length := by omega
   have hi2 := zy0 hlt
   generalize l[i] = r at hi2
   obtain ⟨k, v⟩ := r
   have hk := h.key _ (zy4 hi2)
   have hk1 : isB k = true := hk.1
   have hk2 : 1 ≤ v := hk.2
   have hP2 := h.takeN (i + 1)
   rw [zu8 hi2] at hP2
   have hs := zhx hP2.srt v v
   have hd := zqh hk1
   have h0 : zam k (l.take i) = 0 := by unfold zam; rw [hs.2.1]; rfl
   have ht : tyQ k.d (l.take i ++ [(k, v)]) = tyQ k.d (l.take i) + v := by
    have := zky (f := fun j => j.d == k.d) (k := k) (v := v) hP.srt
    rw [hs.1, h0, if_pos (by simp)] at this
    show zd3 _ _ = zd3 _ _ + v
    rw [this]; omega
   have htop := hP2.top k.d
   have hn : 0 ≤ tyQ k.d (l.take i) := zkz hP.nn
   rw [zah (r := eT (k, v)) (by omega) (by rw [zzm, zy5, hi2]; rfl)]
   simp only [eT, ug0, ugs, zbs]
   refine zxn (k := k) ?_
   rw [hk1, zb7]
   refine zhp (cIf (fun _ => zhp (cIf (fun _ => ?_) fun h => by omega)) fun h => by omega)
   refine tputB_S (k := k) (v := v) (a := zfl (l.take i)) hP.srt (by rw [zz1]; omega) ?_
   rw [hs.2.1, hs.1, post_Bk]
   refine zhp ?_
   show 0 ≤ k.d ∧ k.d < (33 : Int) ∧ _
   refine ⟨by omega, by omega, ?_⟩
   rw [zah (r := tyQ k.d (l.take i)) (by omega) (zdk _ (by omega)), w64 (x := tyQ k.d (l.take i) + v) (by omega) (by omega)]
   refine cIf (fun h => by omega) fun _ => ⟨by omega, by omega, ?_⟩
   have e := zq9 (n := v) hP hk1 (by omega) (by omega)
   rw [h0, z26] at e
   unfold aset zez at e
   rw [zdk _ (by omega), zz8, w64 (x := tyQ k.d (l.take i) + v) (by omega) (by omega), if_neg (by omega), hs.1] at e
   have ew : zyu .i64 ((i : Int) + 1) = ((i + 1 : Nat) : Int) := w64n (by omega)
   rw [e, ew, ← zu8 hi2]
   exact ⟨⟨i + 1, by first | trivial | rfl, rfl, by omega, rfl, rfl⟩, by omega⟩
 · have : i = l.length := by omega
   subst this
   rw [z0r]
   exact K
theorem qnew_S : PRun Tryz.prog 26 [] [.i 256] fun x m => x = .t [.r 0 0, .i 0] ∧ m = [.c [.nl 3, .m 1, .i 256, .i 1], .p .n 1 false []] :=
 S26 ⟨rfl, rfl⟩
end
section
set_option maxRecDepth 1000000
variable {Q : V → Mem → Prop}
def vO (id : Int) : Int := 1048576 + id
theorem mixJb : Tryz.prog.follows .mixedOrders = true := by kernel_rfl
theorem zp2 (h : 1 ≤ id ∧ id < 1048576) (k : Q (.t [.i (vO id), .i 0]) []) : PRun Tryz.prog 189 [] [.i 1, .i id] Q := by
 refine S189 (above_S ?_)
 rw [if_pos rfl, zaw]
 refine cEq (fun h => absurd h (by decide)) fun _ => cIf (fun h1 => by omega) fun _ => cIf (fun h1 => by omega) fun _ => ?_
 rw [w64 (by omega) (by omega)]
 exact k
end
section
set_option maxRecDepth 100000
theorem zw0 : Tryz.prog.follows .mixedOrders = true := by kernel_rfl
theorem S297 {n : List Int} {k l : Int} (hh : PRun Tryz.prog 277 [] [.l 5 c, q16 j k l 1, .f 278 [] []] (post q12 [] (fun a o => (PRun Tryz.prog 277 [] [.l 5 c, q16 j k l 33, .f 278 [] []] (post q12 [] (fun b p => (0 ≤ a ∧ (a ≤ (if b > a then b else a) ∧ (if b > a then b else a) ≤ (zyv c : Int) ∧ (∃ (g : Int → List (List U) → Prop) (m : Int → List (List U) → Nat), g 0 [] ∧ (∀ d : Int, ∀ e : List (List U), g d e → (bif decide (d < (zyv (List.drop (zyx a) (List.take (zyx (if b > a then b else a)) c)) : Int)) then elL (List.drop (zyx a) (List.take (zyx (if b > a then b else a)) c)) d (fun f => dI .i64 (ug f 0) (fun q => dI .i64 (ug f 1) (fun r => dI .i64 (ug f 2) (fun s => dI .i64 (ug f 3) (fun h => dI .i64 (ug f 4) (fun i => zan e [[.n h, .n i]] ∧ (g (zyu .i64 (d + 1)) (e ++ [[.n h, .n i]]) ∧ m (zyu .i64 (d + 1)) (e ++ [[.n h, .n i]]) < m d e))))))) else Q (.l 2 e) (q15 c n))))) : Prop))) : Prop)))) : PRun Tryz.prog 297 (q15 c n) [.r 0 0, q16 j k l t] Q :=
 zad zw0 Tryz.func297 (by kernel_rfl) (H := ⟨[((330, 1, 10), ⟨[(7, .I)], [(2, .c [.ow 112 2])]⟩)], [], [78, 175, 263, 264, 330, 341, 346], [], [], false, 64, KN.no, false, SP.no⟩) (n := 5) (by kernel_rfl) hh
theorem S194 {a : Int} (hh : Q (q16 a 0 b 1) []) : PRun Tryz.prog 194 [] [.i a, .i b] Q :=
 zad zw0 Tryz.func194 (by kernel_rfl) (H := ⟨[], [], [], [], [], false, 64, KN.no, false, SP.no⟩) (n := 2) (by kernel_rfl) hh
theorem S296 {a : Int} (hh : bif decide (a ≥ 1) then Q (.u (.b (decide (a ≤ 8)))) [] else Q (.u (.b false)) []) : PRun Tryz.prog 296 [] [.i a] Q :=
 zad zw0 Tryz.func296 (by kernel_rfl) (H := ⟨[], [], [], [], [], false, 64, KN.no, false, SP.no⟩) (n := 2) (by kernel_rfl) hh
theorem S204 {d : List (List U)} {e : List Int} {o : Int} (hh : PRun Tryz.prog 189 [] [.i n, .i o] (post q10 [] (fun i p => (bif p != 0 then Q (.t [.l 2 [], .i 1]) (q15 d e) else PRun Tryz.prog 296 [] [.i f] (post [.B] [] (fun q => (bif !q then Q (.t [.l 2 [], .i 1]) (q15 d e) else PRun Tryz.prog 194 [] [.i i, .i f] (post [.agg [.i .i64, .i .i64, .i .i64, .i .i64]] [] (fun r s t u => (PRun Tryz.prog 297 (q15 d e) [.r 0 0, q16 r s t u] (post [.L 2] q3 (fun g v w => ∃ (h : Int → List (List U) → List Int → Prop) (j : Int → List (List U) → List Int → Nat), h 0 v w ∧ (∀ a : Int, ∀ b : List (List U), ∀ c : List Int, h a b c → (bif decide (a < (zyv g : Int)) then elL g a (fun k => dI .i64 (ug k 0) (fun x => dI .i64 (ug k 1) (fun y => PRun Tryz.prog 194 [] [.i i, .i f] (post [.agg [.i .i64, .i .i64, .i .i64, .i .i64]] [] (fun α β γ δ => (PRun Tryz.prog 291 (q15 b c) [.r 0 0, q16 α β γ x, .i y] (post q7 q3 (fun ε l m => (h (zyu .i64 (a + 1)) l m ∧ j (zyu .i64 (a + 1)) l m < j a b c : Prop))) : Prop)))))) else Q (.t [.l 2 g, .i 0]) (q15 b c))))) : Prop))) : Prop))) : Prop)))) : PRun Tryz.prog 204 (q15 d e) [.r 0 0, .i n, .i o, .i f] Q :=
 zad zw0 Tryz.func204 (by kernel_rfl) (H := ⟨[((204, 6, 1), ⟨[(40, .I)], [(0, .c [.l 5, .n 33])]⟩)], [], [], [], [], false, 64, KN.no, false, SP.no⟩) (n := 2) (by kernel_rfl) hh
theorem S109 {f : List Int} {w l m ζ : Int} (hh : bif i != l then Q (.i 1) (q15 e f) else PRun Tryz.prog 205 (q15 e f) [.r 0 0, q16 m n i 1, .i 0] (post q7 q3 (fun u γ δ => (bif u != 0 then Q (.i 1) (q15 e f) else PRun Tryz.prog 204 (q15 e f) [.r 0 0, .i v, .i w, .i l] (post [.L 2, .I] q3 (fun o x y α => ∃ (j : Int → List (List U) → List Int → Int → Int → Int → Int → Prop) (p : Int → List (List U) → List Int → Int → Int → Int → Int → Nat), j 0 y α m n i 1 ∧ (∀ a : Int, ∀ g : List (List U), ∀ h : List Int, ∀ b c d q : Int, j a g h b c d q → (bif decide (a < (zyv o : Int)) then elL o a (fun r => dI .i64 (ug r 0) (fun k => dI .i64 (ug r 1) (fun β => PRun Tryz.prog 205 (q15 g h) [.r 0 0, q16 b c d k, .i β] (post q7 q3 (fun ε s t => (j (zyu .i64 (a + 1)) s t b c d k ∧ p (zyu .i64 (a + 1)) s t b c d k < p a g h b c d q : Prop)))))) else Q (.i x) (q15 g h))))) : Prop)))) : PRun Tryz.prog 109 (q15 e f) [.r 0 0, .i v, .i w, .i l, q16 m n i ζ] Q :=
 zad zw0 Tryz.func109 (by kernel_rfl) (H := ⟨[((109, 6, 3), ⟨[(37, .I)], [(0, .c [.l 5, .n 33]), (1, .c [.i .i64, .i .i64, .i .i64, .i .i64])]⟩)], [], [215], [], [], false, 64, KN.no, false, SP.no⟩) (n := 3) (by kernel_rfl) hh
end
section
set_option maxRecDepth 1000000
variable {Q : V → Mem → Prop}
def zhm (x k : K4) : Bool := k.a == x.a && (k.b == x.b && k.c == x.c)
def zg6 (x : K4) (l : Tb) : List Stk := (l.filter fun r => zhm x r.1).map fun r => (r.1.d, r.2)
theorem inDv_iff : zhm x k = true ↔ k = bin x k.d := by
 unfold zhm
 simp only [zyy, beq_iff_eq]
 constructor
 · rintro ⟨h1, h2, h3⟩; exact K4.ext' h1 h2 h3 rfl
 · intro h; rw [h]; exact ⟨rfl, rfl, rfl⟩
theorem znh {k : K4} : ∀ {l : Tb}, Srt l → l.take (za4 k l) = l.filter fun r => decide (r.1.lt k)
 | [], _ => rfl
 | r :: l, hs => by
   simp only [za4]
   by_cases h : r.1.lt k
   · rw [if_pos h, List.take_succ_cons, znh hs.tail, z1w (by simpa using h)]
   · rw [if_neg h, List.take_zero, z06 (by simpa using h)]
     symm
     refine z3j.2 fun s hs' => ?_
     have := hs.head s hs'
     simp only [decide_eq_true_eq]
     exact fun h2 => h (this.trans h2)
theorem zop {k : K4} : ∀ {l : Tb}, Srt l → l.drop (za4 k l) = l.filter fun r => !decide (r.1.lt k)
 | [], _ => rfl
 | r :: l, hs => by
   simp only [za4]
   by_cases h : r.1.lt k
   · rw [if_pos h, List.drop_succ_cons, zop hs.tail, z06 (by simpa using h)]
   · rw [if_neg h, z09]
     symm
     refine z16.2 fun s hs' => ?_
     simp only [zzt, decide_eq_false_iff_not]
     rcases zy3.1 hs' with rfl | hs'
     · exact h
     · exact fun h2 => h ((hs.head s hs').trans h2)
theorem zu6 {j : K4} (hs : Srt l) (h : j.lt k) : za4 j l ≤ za4 k l := by
 rcases z0o (za4 k l) (za4 j l) with h1 | h1
 · have h2 := zhz j l
   have hr := zy0 (l := l) (show za4 k l < l.length by omega)
   exact absurd ((zpl h1 hr).trans h) (zpm hs (zy9 _) hr)
 · exact h1
theorem Srt.filter (hs : Srt l) (p : K4 × Int → Bool) : Srt (l.filter p) := List.Pairwise.filter _ hs
theorem zh0 {j k : K4} : ∀ {l : Tb}, Srt l → j.lt k → za4 j (l.filter fun r => decide (r.1.lt k)) = za4 j l
 | [], _, _ => rfl
 | r :: l, hs, hjk => by
   by_cases h : r.1.lt k
   · rw [z1w (by simpa using h)]
     simp only [za4]
     rw [zh0 hs.tail hjk]
   · have hj : ¬ r.1.lt j := fun h2 => h (h2.trans hjk)
     rw [z06 (by simpa using h)]
     have e : (l.filter fun r => decide (r.1.lt k)) = [] := z3j.2 fun s hs' => by
      simp only [decide_eq_true_eq]
      exact fun h2 => h ((hs.head s hs').trans h2)
     rw [e]
     simp only [za4]
     rw [if_neg hj]
theorem slice_dv (h : BInv l) : (l.take (za4 (bin x 33) l)).drop (za4 (bin x 1) l) = l.filter fun r => zhm x r.1 := by
 have hlt : (bin x 1).lt (bin x 33) := by unfold K4.lt; simp
 rw [znh h.srt, ← zh0 h.srt hlt, zop (h.srt.filter _), List.filter_filter]
 refine List.filter_congr fun r hr => ?_
 have hd := zqh (h.key r hr).1
 have h1 : decide (r.1.lt (bin x 1)) = decide (r.1.a < x.a ∨ (r.1.a = x.a ∧ (r.1.b < x.b ∨ (r.1.b = x.b ∧ (r.1.c < x.c ∨ (r.1.c = x.c ∧ r.1.d < 1)))))) := decide_eq_decide.2 Iff.rfl
 have h2 : decide (r.1.lt (bin x 33)) = decide (r.1.a < x.a ∨ (r.1.a = x.a ∧ (r.1.b < x.b ∨ (r.1.b = x.b ∧ (r.1.c < x.c ∨ (r.1.c = x.c ∧ r.1.d < 33)))))) := decide_eq_decide.2 Iff.rfl
 rw [h1, h2, Bool.eq_iff_iff]
 simp only [zhm, zyy, zzt, decide_eq_true_eq, decide_eq_false_iff_not, beq_iff_eq]
 constructor
 · intro h; omega
 · intro h; omega
theorem of_B (h : BInv l) (hl : l.length ≤ 900000) (K : Q (.l 2 ((zg6 x l).map eS)) [bK l]) : PRun Tryz.prog 297 [bK l] [.r 0 0, kV x] Q := by
 have hlt : (bin x 1).lt (bin x 33) := by unfold K4.lt; simp
 have hm := zu6 h.srt hlt
 have hle := zhz (bin x 33) l
 refine S297 (zbt (k := bin x 1) h.srt (by omega) ?_)
 show PRun _ _ _ _ _
 refine zbt (k := bin x 33) h.srt (by omega) ?_
 show (0 : Int) ≤ ((za4 (bin x 1) l : Nat) : Int) ∧ _
 have emax : (if ((za4 (bin x 33) l : Nat) : Int) > ((za4 (bin x 1) l : Nat) : Int) then ((za4 (bin x 33) l : Nat) : Int) else ((za4 (bin x 1) l : Nat) : Int)) = ((za4 (bin x 33) l : Nat) : Int) := by
  split <;> omega
 rw [emax]
 have ers : List.drop (zyx ((za4 (bin x 1) l : Nat) : Int)) (List.take (zyx ((za4 (bin x 33) l : Nat) : Int)) (l.map eT)) = (l.filter fun r => zhm x r.1).map eT := by
  rw [zzm, zzm, ← slice_dv h, z1f, z03]
 rw [ers]
 have hfl : (l.filter fun r => zhm x r.1).length ≤ l.length := z0b _ _
 have hlen : (((l.filter fun r => zhm x r.1).map eT).length : Int) = ((l.filter fun r => zhm x r.1).length : Int) := by rw [zy2]
 refine ⟨by omega, by omega, by rw [zy2]; omega, ?_⟩
 unfold zg6 at K
 generalize l.filter (fun r => zhm x r.1) = f at *
 refine ⟨fun y o => ∃ i : Nat, y = (i : Int) ∧ i ≤ f.length ∧ o = ((f.take i).map fun r => (r.1.d, r.2)).map eS, fun y _ => (f.length - y).toNat, ⟨0, rfl, zzv _, rfl⟩, ?_⟩
 rintro _ _ ⟨i, rfl, hi, rfl⟩
 rw [hlen]
 refine cIf (fun hc => ?_) fun hc => ?_
 · have hlt : i < f.length := by omega
   rw [zah (r := eT f[i]) (by omega) (by simp [hlt])]
   simp only [eT, ug0, ugs, zbs]
   have e1 : zyu .i64 ((i : Int) + 1) = ((i + 1 : Nat) : Int) := by rw [w64 (by omega) (by omega)]; omega
   rw [e1]
   have e2 : ((f.take i).map fun r => (r.1.d, r.2)).map eS ++ [[.n f[i].1.d, .n f[i].2]] = ((f.take (i + 1)).map fun r => (r.1.d, r.2)).map eS := by
    rw [List.take_succ_eq_append_getElem hlt, zzr, zzr]
    rfl
   refine ⟨?_, ⟨i + 1, rfl, by omega, e2⟩, by omega⟩
   unfold zan
   simp
   omega
 · have : i = f.length := by omega
   subst this
   rw [z0r]
   exact K
theorem zlz {s : Stk} (h : s ∈ zg6 x l) : (bin x s.1, s.2) ∈ l := by
 obtain ⟨r, hr, rfl⟩ := zzu.1 h
 obtain ⟨h1, h2⟩ := z0f.1 hr
 have := inDv_iff.1 h2
 show (bin x r.1.d, r.2) ∈ l
 rw [← this]
 exact h1
theorem lieL_of (h : (bin x t, v) ∈ l) : (t, v) ∈ zg6 x l :=
 zzu.2 ⟨(bin x t, v), z0f.2 ⟨h, inDv_iff.2 rfl⟩, rfl⟩
theorem zw7 (hs : Srt l) : (zg6 x l).Pairwise fun a b => a.1 < b.1 := by
 unfold zg6
 rw [z17]
 refine (List.Pairwise.and_mem.1 (hs.filter fun r => zhm x r.1)).imp ?_
 rintro a b ⟨ha, hb, hab⟩
 have h1 := inDv_iff.1 (z0f.1 ha).2
 have h2 := inDv_iff.1 (z0f.1 hb).2
 rw [h1, h2] at hab
 unfold K4.lt at hab
 simp only at hab
 omega
def rmv (x : K4) (l : Tb) : Tb := l.filter fun r => !zhm x r.1
theorem zh3 {p : K4 → Bool} {k : K4} : ∀ {l : Tb}, Srt l → zau k (l.filter fun r => p r.1) = if p k then zau k l else none
 | [], _ => by simp [zau]
 | r :: l, hs => by
   have ih := zh3 (p := p) (k := k) hs.tail
   by_cases hp : p r.1
   · rw [z1w (p := fun r : K4 × Int => p r.1) hp]
     simp only [zau]
     by_cases e : r.1 = k
     · rw [if_pos e, if_pos e, if_pos (by rw [← e]; exact hp)]
     · rw [if_neg e, if_neg e, ih]
   · rw [z06 (p := fun r : K4 × Int => p r.1) hp, ih]
     simp only [zau]
     by_cases e : r.1 = k
     · rw [if_neg (by rw [← e]; exact hp), if_neg (by rw [← e]; exact hp)]
     · rw [if_neg e]
theorem rmv_get (hs : Srt l) : zau k (rmv x l) = if zhm x k then none else zau k l := by
 unfold rmv
 rw [zh3 (p := fun k => !zhm x k) hs]
 cases zhm x k <;> rfl
theorem Srt.ext : ∀ {l m : Tb}, Srt l → Srt m → (∀ k, zau k l = zau k m) → l = m
 | [], [], _, _, _ => rfl
 | [], r :: m, _, _, h => by
   have := h r.1
   simp [zau] at this
 | r :: l, [], _, _, h => by
   have := h r.1
   simp [zau] at this
 | r :: l, q :: m, hl, hm, h => by
   have h1 : zau r.1 (q :: m) = some r.2 := by rw [← h]; simp [zau]
   have h2 : zau q.1 (r :: l) = some q.2 := by rw [h]; simp [zau]
   have e : r.1 = q.1 := by
    rcases K4.tri r.1 q.1 with h3 | h3 | h3
    · have h4 := zen h1
      rcases zy3.1 h4 with h5 | h5
      · have : r.1 = q.1 := congrArg Prod.fst h5
        exact this
      · exact absurd ((hm.head _ h5).trans h3) (K4.irr _)
    · exact h3
    · have h4 := zen h2
      rcases zy3.1 h4 with h5 | h5
      · exact (congrArg Prod.fst h5).symm
      · exact absurd ((hl.head _ h5).trans h3) (K4.irr _)
   have e2 : r.2 = q.2 := by
    have := h r.1
    simp only [zau, if_true] at this
    rw [if_pos e.symm] at this
    simpa using this
   have er : r = q := Prod.ext e e2
   subst er
   rw [Srt.ext hl.tail hm.tail fun k => ?_]
   have := h k
   simp only [zau] at this
   by_cases ek : r.1 = k
   · subst ek
     rw [zh1 fun s hs e3 => by have := hl.head s hs; rw [e3] at this; exact K4.irr _ this, zh1 fun s hs e3 => by have := hm.head s hs; rw [e3] at this; exact K4.irr _ this]
   · rw [if_neg ek, if_neg ek] at this
     exact this
theorem zut {f : K4 → Bool} {p : K4 × Int → Bool} : ∀ {l : Tb}, (∀ r ∈ l, 0 ≤ r.2) → zd3 f (l.filter p) ≤ zd3 f l
 | [], _ => zzk _
 | r :: l, h => by
   have h1 := h r zzq
   have ih := zut (f := f) (p := p) (l := l) fun s hs => h s (zzo _ hs)
   by_cases hp : p r
   · rw [z1w hp]; simp only [zd3]; omega
   · rw [z06 hp]; simp only [zd3]; split <;> omega
theorem BInv.rmv (h : BInv l) (x : K4) : BInv (rmv x l) where
 srt := h.srt.filter _
 key r hr := h.key r (z0f.1 hr).1
 top d := by
  have := h.top d
  have h2 := zut (f := fun k => k.d == d) (p := fun r => !zhm x r.1) h.nn
  unfold tyQ at *
  exact Int.le_trans h2 this
theorem at_S {o : Int} (k : Q (.a [.i o, .i 0, .i p, .i 1]) []) : PRun Tryz.prog 194 [] [.i o, .i p] Q := S194 k
theorem zxk (k : Q (.u (.b (decide (p ≥ 1) && decide (p ≤ 8)))) []) : PRun Tryz.prog 296 [] [.i p] Q := by
 refine S296 ?_
 generalize hk : (fun b => Q (.u (.b b)) []) = q
 have e : ∀ b, Q (.u (.b b)) [] = q b := fun b => by rw [← hk]
 rw [e] at k
 simp only [e]
 exact zob k fun h => h
abbrev vK (id place : Int) : K4 := ⟨vO id, 0, place, 1⟩
theorem zos {place : Int} (h : BInv l) (hl : l.length ≤ 900000) (hid : 1 ≤ id ∧ id < 1048576) (hp : 1 ≤ place ∧ place ≤ 8)
 (K : Q (.t [.l 2 ((zg6 (vK id place) l).map eS), .i 0]) [bK (rmv (vK id place) l)]) : PRun Tryz.prog 204 [bK l] [.r 0 0, .i 1, .i id, .i place] Q := by
 refine S204 (zp2 hid ?_)
 rw [zb1]
 refine cNe (fun h => absurd rfl h) fun _ => zxk ?_
 rw [zb7, decide_eq_true (show place ≥ 1 from hp.1), decide_eq_true (show place ≤ 8 from hp.2)]
 simp only [Bool.and_self, z0c, cond_false]
 refine at_S ?_
 show PRun _ _ _ _ _
 refine of_B (x := vK id place) h hl ?_
 have hno : (zg6 (vK id place) l).length ≤ l.length := by unfold zg6; rw [zy2]; exact z0b _ _
 show (∃ (I1 : Int → List (List U) → List Int → Prop) (f1 : Int → List (List U) → List Int → Nat), _)
 refine ⟨fun x l' a' => SufI (zg6 (vK id place) l) (fun r => ∃ lt, lt.map eT = l' ∧ zfl lt = a' ∧ BInv lt ∧ lt.length ≤ l.length ∧ (∀ s ∈ r, s ∈ zg6 (vK id place) l) ∧ (r.Pairwise fun a b => a.1 < b.1) ∧ ∀ k, zau k lt = if zhm (vK id place) k ∧ ∀ s ∈ r, s.1 ≠ k.d then none else zau k l) x, fun x _ _ => zq1 (zg6 (vK id place) l) x, .zero (by omega) ⟨l, rfl, rfl, h, zy9 _, fun s hs => hs, zw7 h.srt, fun k => ?_⟩, ?_⟩
 · split
   · rename_i hk
     cases hg : zau k l with
     | none => rfl
     | some v =>
       have hm := zen hg
       rw [inDv_iff.1 hk.1] at hm
       exact absurd rfl (hk.2 _ (lieL_of hm))
   · rfl
 rintro x _ _ ⟨r, s, lt, rfl, rfl, hi, hln, hsub, hpw, hget⟩
 cases r with
 | nil =>
   rw [s.d0, cond_false]
   have e : lt = rmv (vK id place) l := by
    refine Srt.ext hi.srt (h.srt.filter _) fun k => ?_
    rw [hget, rmv_get h.srt]
    simp
   rw [← e] at K
   exact K
 | cons q r =>
   simp only [s.d1, s.el, eS, ug0, ugs, zbs, cond_true]
   refine at_S ?_
   show PRun _ _ _ _ _
   have hq := hsub q zzq
   have hm := zlz hq
   have hk := h.key _ hm
   have hgq : zau (bin (vK id place) q.1) lt = some q.2 := by
    rw [hget, if_neg]
    · exact zh2 h.srt hm
    · rintro ⟨-, hh⟩; exact hh q zzq rfl
   have hvq : zam (bin (vK id place) q.1) lt = q.2 := by unfold zam; rw [hgq]; rfl
   refine take_B (k := bin (vK id place) q.1) hi (by omega) (fun hb => ?_) (fun _ _ hb => ?_) fun _ _ hb => ?_
   · rcases hb with hb | hb
     · rw [hk.1] at hb; cases hb
     · have := hk.2; omega
   · omega
   · rw [hvq, show q.2 + -q.2 = 0 by omega]
     have e0 : zez (bin (vK id place) q.1) 0 lt = zj6 (bin (vK id place) q.1) lt := by unfold zez; rw [if_pos rfl]
     rw [e0]
     have hi2 : BInv (zj6 (bin (vK id place) q.1) lt) := by
      have := hi.set (k := bin (vK id place) q.1) (n := -q.2) hk.1 (by omega) (by have := hi.top q.1; have := hk.2; simp only; omega)
      rwa [hvq, show q.2 + -q.2 = 0 by omega, e0] at this
     have hpw2 := zz5.1 hpw
     refine s.step ⟨_, by first | trivial | rfl, by first | trivial | rfl, hi2, by have := zk4 (k := bin (vK id place) q.1) (l := lt); omega, fun t ht => hsub t (zzo _ ht), hpw2.2, fun k => ?_⟩
     rw [zk5 _ hi.srt, hget]
     by_cases ek : k = bin (vK id place) q.1
     · subst ek
       rw [if_pos rfl, if_pos]
       refine ⟨inDv_iff.2 rfl, fun t ht e => ?_⟩
       have := hpw2.1 t ht
       have e' : t.1 = q.1 := e
       omega
     · rw [if_neg ek]
       by_cases hc : zhm (vK id place) k = true ∧ ∀ t ∈ r, t.1 ≠ k.d
       · rw [if_pos hc, if_pos]
         refine ⟨hc.1, fun t ht => ?_⟩
         rcases zy3.1 ht with rfl | ht
         · exact fun e => ek (by rw [inDv_iff.1 hc.1, e])
         · exact hc.2 t ht
       · rw [if_neg hc, if_neg]
         exact fun h2 => hc ⟨h2.1, fun t ht => h2.2 t (zzo _ ht)⟩
end
section
set_option maxRecDepth 100000
theorem mixTn5 : Tryz.prog.follows .mixedOrders = true := by kernel_rfl
theorem S163 {a c : Int} (hh : bif decide (a < 0) then Q (.t [.u (.p none), .i 1]) [] else (bif decide (a > 8) then Q (.t [.u (.p none), .i 1]) [] else zan [] [[.n a, .l 1 [], .l 1 []]] ∧ (zan [[.n a, .l 1 [], .l 1 []]] [[.n 1, .l 1 [], .l 1 []]] ∧ (zan [[.n a, .l 1 [], .l 1 []], [.n 1, .l 1 [], .l 1 []]] [[.n 1, .l 1 [], .l 1 []]] ∧ (bif decide (b < 0) then Q (.t [.u (.p none), .i 1]) [] else (bif decide (b > 8) then Q (.t [.u (.p none), .i 1]) [] else zan [[.n a, .l 1 [], .l 1 []], [.n 1, .l 1 [], .l 1 []], [.n 1, .l 1 [], .l 1 []]] [[.n b, .l 1 [], .l 1 []]] ∧ (Q (.t [.r 0 0, .i 0]) [.c [.w 1, .m 2], .w 270 3 [[.n a, .l 1 [], .l 1 []], [.n 1, .l 1 [], .l 1 []], [.n 1, .l 1 [], .l 1 []], [.n b, .l 1 [], .l 1 []]], .p .n 1 false []]))))))) : PRun Tryz.prog 163 [] [.l 4 [[.n 1, .n a, .n 1, .n 1000], [.n c, .n 1, .n b, .n 0]]] Q :=
 zad mixTn5 Tryz.func163 (by kernel_rfl) (H := ⟨[], [], [], [], [], true, 64, KN.no, false, SP.no⟩) (n := 2) (by kernel_rfl) hh
end
section
variable {Q : V → Mem → Prop}
theorem apOk_l {b : List (List U)} (h : a.length + b.length ≤ 1000000) : zan a b := h
end
section
set_option maxRecDepth 100000
theorem mixTa3 : Tryz.prog.follows .mixedOrders = true := by kernel_rfl
theorem S333 {i : List (List U)} {u : Int} (hh : ∀ h : Prop, ((∃ (f : Bool → Int → List (MK × List U) → Prop) (d : Bool → Int → List (MK × List U) → Nat), f false 0 [] ∧ (∀ e : Bool, ∀ a : Int, ∀ b : List (MK × List U), f e a b → (bif decide (a < (zyv i : Int)) then elL i a (fun m => dI .i64 (ug m 0) (fun c => dI .i64 (ug m 1) (fun n => mO (zbl b (.n c)) (fun q => (dI .i64 (ug q 0) (fun r => PRun Tryz.prog 173 [] [.i r, .i n] (post q10 [] (fun j s => (bif s != 0 then f true (zyu .i64 (a + 1)) (za1 b (.n c) [.n 1125899906842624]) ∧ d true (zyu .i64 (a + 1)) (za1 b (.n c) [.n 1125899906842624]) < d e a b else (bif decide (j > 1125899906842624) then f true (zyu .i64 (a + 1)) (za1 b (.n c) [.n 1125899906842624]) ∧ d true (zyu .i64 (a + 1)) (za1 b (.n c) [.n 1125899906842624]) < d e a b else f e (zyu .i64 (a + 1)) (za1 b (.n c) [.n j]) ∧ d e (zyu .i64 (a + 1)) (za1 b (.n c) [.n j]) < d e a b) : Prop)))) : Prop)) (PRun Tryz.prog 173 [] [.i 0, .i n] (post q10 [] (fun k t => (bif t != 0 then f true (zyu .i64 (a + 1)) (za1 b (.n c) [.n 1125899906842624]) ∧ d true (zyu .i64 (a + 1)) (za1 b (.n c) [.n 1125899906842624]) < d e a b else (bif decide (k > 1125899906842624) then f true (zyu .i64 (a + 1)) (za1 b (.n c) [.n 1125899906842624]) ∧ d true (zyu .i64 (a + 1)) (za1 b (.n c) [.n 1125899906842624]) < d e a b else f e (zyu .i64 (a + 1)) (za1 b (.n c) [.n k]) ∧ d e (zyu .i64 (a + 1)) (za1 b (.n c) [.n k]) < d e a b) : Prop))))))) else (bif e then Q (.i 0) [] else mO (zbl b (.n u)) (fun v => (dI .i64 (ug v 0) (fun w => Q (.i w) []) : Prop)) (Q (.i 0) []))))) → h) → ∃ (l : Int → Prop) (o : Int → Nat), l 0 ∧ (∀ g : Int, l g → (bif decide (g < (zyv i : Int)) then elL i g (fun p => dI .i64 (ug p 0) (fun x => dI .i64 (ug p 1) (fun y => (bif decide (x < 1) then (bif decide (g ≥ 0) then Q (.i 0) [] else h) else (bif decide (y < 0) then (bif decide (g ≥ 0) then Q (.i 0) [] else h) else l (zyu .i64 (g + 1)) ∧ o (zyu .i64 (g + 1)) < o g))))) else h))) : PRun Tryz.prog 333 [] [.l 2 i, .i u] Q :=
 zad mixTa3 Tryz.func333 (by kernel_rfl) (H := ⟨[((367, 6, 1), ⟨[(5, .B), (15, .I)], [(0, .mp .n 1 false)]⟩), ((385, 2, 0), ⟨[(8, .I)], []⟩)], [((367, 3, 0), ⟨[], []⟩)], [367, 381, 382, 385], [], [], false, 64, KN.no, false, SP.no⟩) (n := 6) (by kernel_rfl) hh
end
def zuq (l : List Stk) (k : Int) : Int := if errN l = 0 then tot l k else 0
theorem PRun.keep {g : FuncId} {args : List V} 
 (hh : ∀ (D : Fz) (C : List zac) (h : zaf) (vs : List Value), St D C h → RpL D [] vs args → Run P g vs h fun v h' => Keep h h' ∧ ∃ x, Rp D [] v x ∧ Q x []) : PRun P g [] args Q := by
 intro D ρ chs C h vs M F
 have h1 : ρ = [] := z0p M.len
 have h2 : chs = [] := z0p M.lch
 subst h1; subst h2
 refine (hh D C h vs (by simpa using M.st) F).mono ?_
 rintro v h' ⟨k, x, hx, hQ⟩
 exact ⟨D, [], [], x, [], .refl _, ⟨rfl, rfl, fun i L ab ch h => (by simp at h), by simpa using (show St D C h by simpa using M.st).keep k⟩, hx, hQ⟩
theorem RpL.two {D : Fz} {ρ : List Loc} {x y : V} (h : RpL D ρ vs [x, y]) : ∃ v w, vs = [v, w] ∧ Rp D ρ v x ∧ Rp D ρ w y := by
 cases h with | cons a b => cases b with | cons b c => cases c; exact ⟨_, _, rfl, a, b⟩
theorem Rp.u_inv {D : Fz} {ρ : List Loc} {v : Value} {x : U} (h : Rp D ρ v (.u x)) : Rd D v x := by cases h; assumption
theorem addC_S {a : Int} (ha : 0 ≤ a ∧ a ≤ zjm) (hb : 0 ≤ b ∧ b ≤ 9223372036854775807) (k1 : zjm < a + b → Q (.t [.i 0, .i 5]) []) (k2 : Q (.t [.i (a + b), .i 0]) []) : PRun Tryz.prog 173 [] [.i a, .i b] Q := by
 unfold zjm at *
 refine S173 ?_
 rw [decide_eq_true (show a ≥ 0 from ha.1), decide_eq_true (show b ≥ 0 from hb.1)]
 by_cases h : a + b ≤ 9223372036854775807
 · rw [w64 (x := a + b) (by omega) h, decide_eq_true (show a + b ≥ 0 by omega)]
   exact k2
 · have : ¬ zyu .i64 (a + b) ≥ 0 := by
    have hb : (2 ^ IntKind.i64.bits : Int) = 18446744073709551616 := by decide
    have hb1 : (2 ^ (IntKind.i64.bits - 1) : Int) = 9223372036854775808 := by decide
    simp only [zyu, IntKind.signed, hb, hb1, Bool.true_and, decide_eq_true_eq, ge_iff_le]
    split <;> omega
   rw [decide_eq_false this]
   exact k1 (by omega)
def CntI (l : List Stk) (b : Bool) (i : Nat) (m : List (MK × List U)) : Prop := (b = true → over l) ∧ (b = false → ∀ k, zbl m (.n k) = (if k ∈ (l.take i).map (·.1) then some [.n (tot (l.take i) k)] else none)) ∧ ∀ k r, zbl m (.n k) = some r → ∃ x, r = [U.n x] ∧ 0 ≤ x ∧ x ≤ zjm
theorem tot_le {l : List Stk} (h : zt3 l) (i : Nat) (k : Int) : tot (l.take i) k ≤ tot l k := by
 have e := zgb (l.take i) (l.drop i) k
 rw [z0h] at e
 have := ztc (l := l.drop i) (fun s hs => h s (z1s hs)) k
 omega
theorem CntI.step {l : List Stk} {b : Bool} {i : Nat} {q x : Int} (h : CntI l b i m) (hi : l[i]? = some (t, q)) (hx : b = false → x = tot (l.take i) t) (hb : 0 ≤ x + q ∧ x + q ≤ zjm) : CntI l b (i + 1) (za1 m (.n t) [.n (x + q)]) := by
 refine ⟨h.1, fun hf k => ?_, fun k r hr => ?_⟩
 · have e : l.take (i + 1) = l.take i ++ [(t, q)] := by rw [z05, hi]; rfl
   rw [za5, e, zzr, zgb, h.2.1 hf k]
   by_cases hk : t = k
   · subst hk
     rw [if_pos rfl, if_pos (by simp), hx hf]
     simp [tot]
   · rw [if_neg (fun h => hk (by cases h; rfl))]
     have : (k ∈ (l.take i).map (·.1) ++ [(t, q)].map (·.1)) ↔ k ∈ (l.take i).map (·.1) := by simp [Ne.symm hk]
     simp only [this, tot, if_neg hk, Int.add_zero]
 · rw [za5] at hr
   split at hr
   · cases hr; exact ⟨_, rfl, hb⟩
   · exact h.2.2 k r hr
theorem CntI.full {l : List Stk} {b : Bool} {i : Nat} (h : CntI l b i m) (ho : over l) : CntI l true (i + 1) (za1 m (.n t) [.n 1125899906842624]) := by
 refine ⟨fun _ => ho, by simp, fun k r hr => ?_⟩
 rw [za5] at hr
 split at hr
 · cases hr; exact ⟨_, rfl, by decide, by decide⟩
 · exact h.2.2 k r hr
theorem pCount_S {x : Int} (hr : rng L) (hL : L.length ≤ 1000) (k : Q (.i (zuq L x)) []) : PRun Tryz.prog 333 [] [.l 2 (L.map eS), .i x] Q := by
 have bad : ¬ zt3 L → Q (.i 0) [] := fun h => by
  have : zuq L x = 0 := by unfold zuq; rw [errN_bad h, if_neg (by decide)]
  rwa [this] at k
 have ov : zt3 L → over L → Q (.i 0) [] := fun h ho => by
  have : zuq L x = 0 := by unfold zuq; rw [zxz h ho, if_neg (by decide)]
  rwa [this] at k
 have row : ∀ {i : Nat} {s : Stk}, L[i]? = some s → ∀ {F : List U → Prop}, elL (L.map eS) (i : Int) F = F (eS s) := fun {i s} h {F} => zah (by omega) (by rw [zzm, zy5, h]; rfl)
 have hlen : ((L.map eS).length : Int) = (L.length : Int) := by rw [zy2]
 refine S333 ?_
 intro k1 hk1
 rw [hlen] at *
 refine ⟨fun x => ∃ i : Nat, x = (i : Int) ∧ i ≤ L.length ∧ ∀ s ∈ L.take i, 1 ≤ s.1 ∧ 0 ≤ s.2, fun x => (L.length - x).toNat, ⟨0, rfl, zzv _, by simp⟩, ?_⟩
 rintro _ ⟨i, rfl, hi, hg⟩
 refine cIf (fun hlt => ?_) fun hge => ?_
 · have hl : i < L.length := by omega
   have hi2 := zy0 hl
   generalize L[i] = s at hi2
   have hm := zy4 hi2
   rw [row hi2]
   simp only [eS, ug0, ugs, zbs]
   refine cIf (fun h => cIf (fun _ => bad fun hgl => ?_) fun h => absurd (show (i : Int) ≥ 0 by omega) h) fun h1 => cIf (fun h => cIf (fun _ => bad fun hgl => ?_) fun h => absurd (show (i : Int) ≥ 0 by omega) h) fun h2 => ?_
   · have := (hgl s hm).1; omega
   · have := (hgl s hm).2; omega
   · have ew : zyu .i64 ((i : Int) + 1) = ((i + 1 : Nat) : Int) := w64n (by omega)
     rw [ew]
     refine ⟨⟨i + 1, rfl, by omega, fun u hu => ?_⟩, by omega⟩
     rw [z05, hi2] at hu
     rcases zy6.1 hu with hu | hu
     · exact hg u hu
     · obtain rfl := z0s.1 hu; omega
 · have : i = L.length := by omega
   subst this
   rw [z0r] at hg
   have hgd : zt3 L := hg
   refine hk1 ⟨fun b x m => ∃ i : Nat, x = (i : Int) ∧ i ≤ L.length ∧ CntI L b i m, fun _ x _ => (L.length - x).toNat, ⟨0, rfl, zzv _, by simp, by simp [zbl], by simp [zbl]⟩, ?_⟩
   rintro b _ m ⟨i, rfl, hi, hI⟩
   refine cIf (fun hlt => ?_) fun hge => ?_
   · have hl : i < L.length := by omega
     have hi2 := zy0 hl
     generalize L[i] = s at hi2
     have hm := zy4 hi2
     obtain ⟨t, q⟩ := s
     rw [row hi2]
     simp only [eS, ug0, ugs, zbs]
     have hq := (hr _ hm).2
     have hq2 := (hgd _ hm).2
     have ew : zyu .i64 ((i : Int) + 1) = ((i + 1 : Nat) : Int) := w64n (by omega)
     rw [ew]
     have mm : ∀ {X : Prop}, X → X ∧ ((L.length : Int) - ((i + 1 : Nat) : Int)).toNat < ((L.length : Int) - (i : Int)).toNat := fun h => ⟨h, by omega⟩
     have ovr : ∀ {y : Int}, (b = false → y = tot (L.take i) t) → zjm < y + q → over L := fun {y} hy h => by
      cases b with
      | true => exact hI.1 rfl
      | false =>
        refine ⟨(t, q), hm, ?_⟩
        have e : L.take (i + 1) = L.take i ++ [(t, q)] := by rw [z05, hi2]; rfl
        have h1 := tot_le hgd (i + 1) t
        rw [e, zgb] at h1
        have := hy rfl
        simp only [tot, if_true] at h1
        show zjm < tot L t
        omega
     have go : ∀ {y : Int}, (b = false → y = tot (L.take i) t) → 0 ≤ y ∧ y ≤ zjm → _ := fun {y} hy hb => addC_S (Q := post [.I, .I] [] (fun x5 x6 => (bif x6 != 0 then (∃ j : Nat, ((i + 1 : Nat) : Int) = (j : Int) ∧ j ≤ L.length ∧ CntI L true j (za1 m (.n t) [.n 1125899906842624])) ∧ ((L.length : Int) - ((i + 1 : Nat) : Int)).toNat < ((L.length : Int) - (i : Int)).toNat else (bif decide (x5 > 1125899906842624) then (∃ j : Nat, ((i + 1 : Nat) : Int) = (j : Int) ∧ j ≤ L.length ∧ CntI L true j (za1 m (.n t) [.n 1125899906842624])) ∧ ((L.length : Int) - ((i + 1 : Nat) : Int)).toNat < ((L.length : Int) - (i : Int)).toNat else (∃ j : Nat, ((i + 1 : Nat) : Int) = (j : Int) ∧ j ≤ L.length ∧ CntI L b j (za1 m (.n t) [.n x5])) ∧ ((L.length : Int) - ((i + 1 : Nat) : Int)).toNat < ((L.length : Int) - (i : Int)).toNat) : Prop)))
      (a := y) (b := q) hb (by omega) (fun h => mm ⟨i + 1, rfl, by omega, hI.full (ovr hy h)⟩) (by
       show cond (decide (y + q > 1125899906842624)) _ _
       refine cIf (fun h => mm ⟨i + 1, rfl, by omega, hI.full (ovr hy h)⟩) fun h => mm ⟨i + 1, rfl, by omega, hI.step hi2 hy ⟨by omega, by unfold zjm; omega⟩⟩)
     cases e : zbl m (.n t) with
     | none =>
       simp only [mO]
       refine go (fun hb => ?_) ⟨by decide, by decide⟩
       have := hI.2.1 hb t
       rw [e] at this
       split at this
       · cases this
       · rename_i hn; exact (zra hn).symm
     | some r =>
       obtain ⟨y, rfl, hy⟩ := hI.2.2 t r e
       simp only [mO, ug0, zbs]
       refine go (fun hb => ?_) hy
       have := hI.2.1 hb t
       rw [e] at this
       split at this
       · cases this; rfl
       · cases this
   · have : i = L.length := by omega
     subst this
     refine cB (fun h => ov hgd (hI.1 h)) fun h => ?_
     have h2 := hI.2.1 h x
     rw [z0r] at h2
     by_cases ho : over L
     · cases e : zbl m (.n x) with
       | none => simp only [mO]; exact ov hgd ho
       | some r =>
         exfalso
         obtain ⟨s, hs, hlt⟩ := ho
         have h3 := hI.2.1 h s.1
         rw [z0r, if_pos (zzu.2 ⟨s, hs, rfl⟩)] at h3
         obtain ⟨y, hy, -, hy2⟩ := hI.2.2 _ _ h3
         cases hy
         omega
     · have hc : zuq L x = tot L x := by unfold zuq; rw [errN_ok hgd ho, if_pos rfl]
       rw [hc] at k
       split at h2
       · rw [h2]; simp only [mO, ug0, zbs]; exact k
       · rename_i hn
         rw [h2]; simp only [mO]
         rwa [zra hn] at k
section
variable {Q : V → Mem → Prop}
structure CheckOK (l : List Stk) (types : Int) : Prop where
 len : l.length ≤ 8
 rise : l.Pairwise (fun a b => a.1 < b.1)
 el : ∀ s ∈ l, 1 ≤ s.1 ∧ s.1 ≤ types ∧ 1 ≤ s.2 ∧ s.2 ≤ zjm
theorem chkL_iff {types : Int} : ∀ {l : List Stk} {last : Int}, zow types last l = true ↔ l.Pairwise (fun a b => a.1 < b.1) ∧ ∀ s ∈ l, last < s.1 ∧ s.1 ≤ types ∧ 1 ≤ s.2 ∧ s.2 ≤ zjm
 | [], last => by simp [zow]
 | a :: l, last => by
   simp only [zow, zyy, decide_eq_true_eq, chkL_iff (l := l), zz5, zy3]
   have hM : zjm = 1125899906842624 := rfl
   constructor
   · rintro ⟨h1, h2, h3⟩
     refine ⟨⟨fun b hb => (h3 b hb).1, h2⟩, ?_⟩
     rintro s (rfl | hs)
     · omega
     · have := h3 s hs; omega
   · rintro ⟨⟨h1, h2⟩, h3⟩
     refine ⟨by have := h3 a (.inl rfl); omega, h2, fun s hs => ?_⟩
     have := h3 s (.inr hs)
     have := h1 s hs
     omega
theorem chkE_iff {l : List Stk} : zfe l types = 0 ↔ CheckOK l types := by
 unfold zfe
 constructor
 · intro h
   split at h
   · rename_i hh
     have := chkL_iff.1 hh.1
     exact ⟨hh.2, this.1, fun s hs => by have := this.2 s hs; omega⟩
   · cases h
 · intro h
   rw [if_pos]
   exact ⟨chkL_iff.2 ⟨h.rise, fun s hs => by have := h.el s hs; omega⟩, h.len⟩
theorem znf {x : Int} (h : 0 ≤ x) (h2 : x < 18446744073709551616) : zyu .u64 x = x := by rw [z2v]; omega
end
section
set_option maxRecDepth 100000
theorem mixTb0 : Tryz.prog.follows .mixedOrders = true := by kernel_rfl
theorem S340z {lo : Int} {y : Int} (hh : bif y == 0 then False else (bif decide (y ≤ 0) then False else y ≠ 0 ∧ (y ≠ 0 ∧ (Q (.t [.u (.i .u64 (zyu .u64 (Int.tdiv lo y))), .u (.i .u64 (Int.tmod lo y))]) [])))) : PRun Tryz.prog 340 [] [.u (.i .u64 0), .u (.i .u64 lo), .u (.i .u64 y)] Q :=
 zad mixTb0 Tryz.func340 (by kernel_rfl) (H := ⟨[], [], [], [], [], false, 64, KN.no, false, SP.no⟩) (n := 2) (by kernel_rfl) hh
end
section
set_option maxRecDepth 100000
theorem ze3 : Tryz.prog.follows .mixedOrders = true := by kernel_rfl
theorem S169 {o q r s u m w a c : Int} {x : List (List U)} (hh : ∀ g : Bool → Prop, (∀ e : Bool, (∀ h : Bool → Prop, (∀ f : Bool, (∀ i : Bool → Prop, (∀ j : Bool, (∀ k : Bool → Prop, (∀ l : Bool, ((bif l then (bif e then Q (.u (.b j)) [] else Q (.u (.b false)) []) else (bif a == 2 then (bif f then (bif j then Q (.u (.b (c == zyu .i64 (d + b)))) [] else Q (.u (.b false)) []) else Q (.u (.b false)) []) else (bif a == 4 then (bif a == 4 then (bif f then (bif decide (d < c) then (bif decide (c ≤ 2199023255552) then Q (.u (.b (b == 0))) [] else Q (.u (.b false)) []) else Q (.u (.b false)) []) else Q (.u (.b false)) []) else (bif a == 6 then (bif e then Q (.u (.b (b == 0))) [] else Q (.u (.b false)) []) else Q (.u (.b false)) [])) else (bif a == 5 then (bif f then (bif decide (d < c) then (bif decide (c ≤ 2199023255552) then Q (.u (.b (b == 0))) [] else Q (.u (.b false)) []) else Q (.u (.b false)) []) else Q (.u (.b false)) []) else (bif a == 6 then (bif e then Q (.u (.b (b == 0))) [] else Q (.u (.b false)) []) else Q (.u (.b false)) [])))))) → k l) → (bif a == 1 then k (a == 1) else k (a == 3))) → i j) → (bif decide (b ≥ 1) then i (decide (b ≤ m)) else i false)) → h f) → (bif decide (d ≥ 0) then h (decide (d ≤ 1099511627776)) else h false)) → g e) → (bif d == 0 then g (c == 0) else g false)) : PRun Tryz.prog 169 [] [(q17 n o p q r s t u v m w x a d c b)] Q :=
 zad ze3 Tryz.func169 (by kernel_rfl) (H := ⟨[], [((169, 2, 1), ⟨[(3, .B)], []⟩), ((169, 3, 1), ⟨[(4, .B)], []⟩), ((169, 4, 1), ⟨[(5, .B)], []⟩), ((169, 7, 1), ⟨[(24, .B)], []⟩)], [167], [], [], false, 64, KN.no, false, SP.no⟩) (n := 3) (by kernel_rfl) hh
theorem S71 {l m e k s u : Int} (hh : bif decide (f ≥ 1) then (bif !(decide (f ≤ 1099511627776)) then Q (.i 1) [] else (bif decide (g ≥ 1) then (bif !(decide (g ≤ 1099511627776)) then Q (.i 1) [] else (bif decide (h ≥ 1) then (bif !(decide (h ≤ 1099511627776)) then Q (.i 1) [] else (bif decide (i ≥ 1) then (bif !(decide (i ≤ 1099511627776)) then Q (.i 1) [] else (bif decide (j ≥ 1) then (bif !(decide (j ≤ 1099511627776)) then Q (.i 1) [] else (bif decide (k ≥ 1) then (bif !(decide (k ≤ 1099511627776)) then Q (.i 1) [] else ∀ c : Bool → Prop, (∀ p : Bool, (∀ a : Bool → Prop, (∀ q : Bool, (∀ d : Bool → Prop, (∀ r : Bool, ((bif q then (bif p then (bif r then PRun Tryz.prog 169 [] [(q17 f b g l h i j m e k n o s t u v)] (post [.B] [] (fun w => (bif w then Q (.i 0) [] else Q (.i 1) [] : Prop))) else Q (.i 1) []) else Q (.i 1) []) else Q (.i 1) [])) → d r) → PRun Tryz.prog 168 [] [.l 2 o, .i 32] (post q7 [] (fun x => (bif x == 0 then (bif b == 1 then d true else d ((zyv o : Int) == 0)) else d false : Prop)))) → a q) → (bif decide (b ≥ 1) then (bif decide (b ≤ 4) then (bif decide (l ≥ 0) then (bif decide (l ≤ 4) then (bif decide (m ≥ 1) then (bif decide (m ≤ 1000) then (bif decide (n ≥ 0) then a (decide (n ≤ 1152921504606846976)) else a false) else a false) else a false) else a false) else a false) else a false) else a false)) → c p) → (bif b == 4 then (bif decide (e ≥ 1) then c (decide (e ≤ 10)) else c false) else c (e == 0))) else Q (.i 1) [])) else Q (.i 1) [])) else Q (.i 1) [])) else Q (.i 1) [])) else Q (.i 1) [])) else Q (.i 1) []) : PRun Tryz.prog 71 [] [(q17 f b g l h i j m e k n o s t u v)] Q :=
 zad ze3 Tryz.func71 (by kernel_rfl) (H := ⟨[], [((71, 10, 1), ⟨[(5, .B)], []⟩), ((71, 11, 1), ⟨[(6, .B)], []⟩), ((71, 12, 1), ⟨[(7, .B)], []⟩)], [167], [], [], false, 64, KN.no, false, SP.no⟩) (n := 3) (by kernel_rfl) hh
theorem S106 {a : Int} (hh : bif a == 1 then Q (.i 0) [] else Q (.i 1) []) : PRun Tryz.prog 106 [] [.i a] Q :=
 zad ze3 Tryz.func106 (by kernel_rfl) (H := ⟨[], [], [], [], [], false, 64, KN.no, false, SP.no⟩) (n := 2) (by kernel_rfl) hh
theorem S183 {c e k l a o : Int} {m : List (List U)} (hh : bif decide (a ≥ 1) then Q (.u (.b (decide (a ≤ 4)))) [] else Q (.u (.b false)) []) : PRun Tryz.prog 183 [] [(q17 b c d e f g h i j k l m a n o p)] Q :=
 zad ze3 Tryz.func183 (by kernel_rfl) (H := ⟨[], [], [167], [], [], false, 64, KN.no, false, SP.no⟩) (n := 3) (by kernel_rfl) hh
theorem S294 {c e k l m o q a : Int} {n : List (List U)} (hh : PRun Tryz.prog 71 [] [(q17 c d e f g h i j k l m n o p q b)] (post q7 [] (fun r => (bif r != 0 then Q (.t [(q17 0 0 0 0 0 0 0 0 0 0 0 [] 0 0 0 0), .i 1]) [] else (bif decide (a ≥ 0) then (bif !(decide (a ≤ 1099511627776)) then Q (.t [(q17 0 0 0 0 0 0 0 0 0 0 0 [] 0 0 0 0), .i 1]) [] else (bif !(o == 1) then Q (.t [(q17 0 0 0 0 0 0 0 0 0 0 0 [] 0 0 0 0), .i 9]) [] else Q (.t [(q17 c d e f g h i j k l m n 2 a (zyu .i64 (a + b)) b), .i 0]) [])) else Q (.t [(q17 0 0 0 0 0 0 0 0 0 0 0 [] 0 0 0 0), .i 1]) []) : Prop)))) : PRun Tryz.prog 294 [] [(q17 c d e f g h i j k l m n o p q b), .i a] Q :=
 zad ze3 Tryz.func294 (by kernel_rfl) (H := ⟨[], [], [167, 201, 344], [], [], false, 64, KN.no, false, SP.no⟩) (n := 4) (by kernel_rfl) hh
theorem S101 {c e k l m o q a : Int} {n : List (List U)} (hh : PRun Tryz.prog 71 [] [(q17 c d e f g h i j k l m n o p b q)] (post q7 [] (fun r => (bif r != 0 then Q (.t [(q17 0 0 0 0 0 0 0 0 0 0 0 [] 0 0 0 0), .i 1]) [] else (bif decide (a ≥ 0) then (bif !(decide (a ≤ 1099511627776)) then Q (.t [(q17 0 0 0 0 0 0 0 0 0 0 0 [] 0 0 0 0), .i 1]) [] else (bif o == 2 then (bif decide (a ≥ p) then (bif !(decide (a ≤ zyu .i64 (b - 1))) then Q (.t [(q17 0 0 0 0 0 0 0 0 0 0 0 [] 0 0 0 0), .i 9]) [] else Q (.t [(q17 c d e f g h i j k l m n 3 0 0 (zyu .i64 (b - a))), .i 0]) []) else Q (.t [(q17 0 0 0 0 0 0 0 0 0 0 0 [] 0 0 0 0), .i 9]) []) else Q (.t [(q17 0 0 0 0 0 0 0 0 0 0 0 [] 0 0 0 0), .i 9]) [])) else Q (.t [(q17 0 0 0 0 0 0 0 0 0 0 0 [] 0 0 0 0), .i 1]) []) : Prop)))) : PRun Tryz.prog 101 [] [(q17 c d e f g h i j k l m n o p b q), .i a] Q :=
 zad ze3 Tryz.func101 (by kernel_rfl) (H := ⟨[], [], [167, 201, 209], [], [], false, 64, KN.no, false, SP.no⟩) (n := 5) (by kernel_rfl) hh
theorem S103 {a c e k m o : Int} {l : List (List U)} (hh : PRun Tryz.prog 71 [] [(q17 a b c d e f g h i j k l m n o p)] (post q7 [] (fun q => (bif q != 0 then Q (.t [(q17 0 0 0 0 0 0 0 0 0 0 0 [] 0 0 0 0), .i 1]) [] else (bif !(m == 3) then Q (.t [(q17 0 0 0 0 0 0 0 0 0 0 0 [] 0 0 0 0), .i 9]) [] else Q (.t [(q17 a b c d e f g h i j k l 1 n o p), .i 0]) []) : Prop)))) : PRun Tryz.prog 103 [] [(q17 a b c d e f g h i j k l m n o p)] Q :=
 zad ze3 Tryz.func103 (by kernel_rfl) (H := ⟨[], [], [167, 201, 212], [], [], false, 64, KN.no, false, SP.no⟩) (n := 4) (by kernel_rfl) hh
theorem S114 {c e k l m o a q : Int} {n : List (List U)} (hh : PRun Tryz.prog 71 [] [(q17 c d e f g h i j k l m n o p a q)] (post q7 [] (fun r => (bif r != 0 then Q (.t [(q17 0 0 0 0 0 0 0 0 0 0 0 [] 0 0 0 0), .i 1]) [] else (bif decide (b ≥ 0) then (bif !(decide (b ≤ 1099511627776)) then Q (.t [(q17 0 0 0 0 0 0 0 0 0 0 0 [] 0 0 0 0), .i 1]) [] else (bif o == 2 then (bif !(decide (b ≥ a)) then Q (.t [(q17 0 0 0 0 0 0 0 0 0 0 0 [] 0 0 0 0), .i 9]) [] else Q (.t [(q17 c d e f g h i j k l m n 4 p a 0), .i 0]) []) else Q (.t [(q17 0 0 0 0 0 0 0 0 0 0 0 [] 0 0 0 0), .i 9]) [])) else Q (.t [(q17 0 0 0 0 0 0 0 0 0 0 0 [] 0 0 0 0), .i 1]) []) : Prop)))) : PRun Tryz.prog 114 [] [(q17 c d e f g h i j k l m n o p a q), .i b] Q :=
 zad ze3 Tryz.func114 (by kernel_rfl) (H := ⟨[], [], [167, 201, 220], [], [], false, 64, KN.no, false, SP.no⟩) (n := 4) (by kernel_rfl) hh
theorem S95 {a c e k m o : Int} {l : List (List U)} (hh : PRun Tryz.prog 71 [] [(q17 a b c d e f g h i j k l m n o p)] (post q7 [] (fun q => (bif q != 0 then Q (.t [(q17 0 0 0 0 0 0 0 0 0 0 0 [] 0 0 0 0), .i 1]) [] else (bif !(m == 4) then Q (.t [(q17 0 0 0 0 0 0 0 0 0 0 0 [] 0 0 0 0), .i 9]) [] else Q (.t [(q17 a b c d e f g h i j k l 5 n o p), .i 0]) []) : Prop)))) : PRun Tryz.prog 95 [] [(q17 a b c d e f g h i j k l m n o p)] Q :=
 zad ze3 Tryz.func95 (by kernel_rfl) (H := ⟨[], [], [167, 201, 202], [], [], false, 64, KN.no, false, SP.no⟩) (n := 4) (by kernel_rfl) hh
theorem S108 {c e k l a o : Int} {m : List (List U)} (hh : PRun Tryz.prog 71 [] [(q17 b c d e f g h i j k l m a n o p)] (post q7 [] (fun q => (bif q != 0 then Q (.t [(q17 0 0 0 0 0 0 0 0 0 0 0 [] 0 0 0 0), .i 1]) [] else (bif decide (a ≥ 1) then (bif !(decide (a ≤ 3)) then Q (.t [(q17 0 0 0 0 0 0 0 0 0 0 0 [] 0 0 0 0), .i 9]) [] else Q (.t [(q17 b c d e f g h i j k l m 6 0 0 0), .i 0]) []) else Q (.t [(q17 0 0 0 0 0 0 0 0 0 0 0 [] 0 0 0 0), .i 9]) []) : Prop)))) : PRun Tryz.prog 108 [] [(q17 b c d e f g h i j k l m a n o p)] Q :=
 zad ze3 Tryz.func108 (by kernel_rfl) (H := ⟨[], [], [167, 201, 214], [], [], false, 64, KN.no, false, SP.no⟩) (n := 5) (by kernel_rfl) hh
end
section
set_option maxRecDepth 1000000
variable {Q : V → Mem → Prop}
structure Jb where
 id : Int
 kind : Int
 own : Int
 div : Int
 who : Int
 bay : Int
 draft : Int
 runs : Int
 copies : Int
 time : Int
 fee : Int
 needs : List Stk
 st : Int
 start : Int
 fin : Int
 left : Int
abbrev jV (j : Jb) : V := .a [.i j.id, .i j.kind, .i j.own, .i j.div, .i j.who, .i j.bay, .i j.draft, .i j.runs, .i j.copies, .i j.time, .i j.fee, .l 2 (j.needs.map eS), .i j.st, .i j.start, .i j.fin, .i j.left]
abbrev za6 (j : Jb) : List U := [.n j.id, .n j.kind, .n j.own, .n j.div, .n j.who, .n j.bay, .n j.draft, .n j.runs, .n j.copies, .n j.time, .n j.fee, .l 2 (j.needs.map eS), .n j.st, .n j.start, .n j.fin, .n j.left]
def jZ : Jb := ⟨0, 0, 0, 0, 0, 0, 0, 0, 0, 0, 0, [], 0, 0, 0, 0⟩
def inJ (n a b : Int) : Bool := decide (n ≥ a) && decide (n ≤ b)
theorem inJ_iff {a : Int} : inJ n a b = true ↔ a ≤ n ∧ n ≤ b := by
 unfold inJ
 simp only [zyy, decide_eq_true_eq]
theorem kAn {k : Bool → Prop} {c r : Bool} {T : Prop} (h : k (c && r)) (hT : k r → T) : bif c then T else k false := by
 cases c with
 | true => exact hT h
 | false => exact h
theorem kOr {k : Bool → Prop} {c r : Bool} (h : k (c || r)) : bif c then k c else k r := by
 cases c with
 | true => exact h
 | false => exact h
theorem kOr2 {k : Bool → Prop} {c r : Bool} (h : k (c || r)) : bif c then k true else k r := by
 cases c with
 | true => exact h
 | false => exact h
theorem zmn {x a : Int} {A B : Prop} (h0 : inJ x a b = false → A) (h1 : inJ x a b = true → B) : bif decide (x ≥ a) then (bif !(decide (x ≤ b)) then A else B) else A := by
 unfold inJ at h0 h1
 cases h : decide (x ≥ a) with
 | false => rw [h] at h0; exact h0 rfl
 | true =>
   rw [h] at h0 h1
   cases h2 : decide (x ≤ b) with
   | false => rw [h2] at h0; exact h0 rfl
   | true => rw [h2] at h1; exact h1 rfl
def jNone (j : Jb) : Bool := j.start == 0 && j.fin == 0
def jSt (j : Jb) : Bool :=
 if j.st = 1 ∨ j.st = 3 then jNone j && inJ j.left 1 j.time else if j.st = 2 then inJ j.start 0 1099511627776 && (inJ j.left 1 j.time && j.fin == zyu .i64 (j.start + j.left))
 else if j.st = 4 ∨ j.st = 5 then inJ j.start 0 1099511627776 && (decide (j.start < j.fin) && (decide (j.fin ≤ 2199023255552) && j.left == 0)) else if j.st = 6 then jNone j && j.left == 0 else false
theorem zxd {j : Jb} (K : Q (.u (.b (jSt j))) []) : PRun Tryz.prog 169 [] [jV j] Q := by
 refine S169 ?_
 generalize hk : (fun b => Q (.u (.b b)) []) = k
 have e : ∀ b, Q (.u (.b b)) [] = k b := fun b => by rw [← hk]
 rw [e] at K
 simp only [e]
 intro k1 hk1
 refine kAn (hk1 (jNone j) ?_) fun h => h
 intro k2 hk2
 refine kAn (hk2 (inJ j.start 0 1099511627776) ?_) fun h => h
 intro k3 hk3
 refine kAn (hk3 (inJ j.left 1 j.time) ?_) fun h => h
 intro k4 hk4
 refine kOr (hk4 _ ?_)
 unfold jSt at K
 by_cases h13 : j.st = 1 ∨ j.st = 3
 · rw [if_pos h13] at K
   have : (j.st == 1 || j.st == 3) = true := by rcases h13 with h | h <;> rw [h] <;> rfl
   rw [this]
   exact kAn K fun h => h
 · rw [if_neg h13] at K
   have : (j.st == 1 || j.st == 3) = false := by
    rw [z2e]
    exact ⟨beq_eq_false_iff_ne.2 fun h => h13 (.inl h), beq_eq_false_iff_ne.2 fun h => h13 (.inr h)⟩
   rw [this]
   show (bif j.st == 2 then _ else _ : Prop)
   refine cEq (fun h2 => ?_) fun h2 => ?_
   · rw [if_pos h2] at K
     exact kAn K fun h => kAn h fun h => h
   · rw [if_neg h2] at K
     refine cEq (fun h4 => ?_) fun h4 => cEq (fun h5 => ?_) fun h5 => cEq (fun h6 => ?_) fun h6 => ?_
     · rw [if_pos (.inl h4)] at K
       exact cEq (fun _ => kAn K fun h => kAn h fun h => kAn h fun h => h) fun h => absurd h4 h
     · rw [if_pos (.inr h5)] at K
       exact kAn K fun h => kAn h fun h => kAn h fun h => h
     · rw [if_neg (by omega), if_pos h6] at K
       exact kAn K fun h => h
     · rw [if_neg (by omega), if_neg h6] at K
       exact K
def jNum (j : Jb) : Bool := inJ j.kind 1 4 && (inJ j.div 0 4 && (inJ j.runs 1 1000 && inJ j.fee 0 1152921504606846976))
def jCop (j : Jb) : Bool := if j.kind = 4 then inJ j.copies 1 10 else j.copies == 0
def zqe (j : Jb) : Bool := zfe j.needs 32 == 0 && (j.kind == 1 || (j.needs.length : Int) == 0)
def zo3 (j : Jb) : Bool := inJ j.id 1 1099511627776 && (inJ j.own 1 1099511627776 && (inJ j.who 1 1099511627776 && (inJ j.bay 1 1099511627776 && (inJ j.draft 1 1099511627776 && (inJ j.time 1 1099511627776 && (jNum j && (jCop j && zqe j)))))))
def jOk (j : Jb) : Bool := zo3 j && jSt j
theorem zev {j : Jb} (hn : j.needs.length ≤ 1000) (K : Q (.i (if jOk j then 0 else 1)) []) : PRun Tryz.prog 71 [] [jV j] Q := by
 have bad : jOk j = false → Q (.i 1) [] := fun h => by rw [h] at K; exact K
 have badF : zo3 j = false → Q (.i 1) [] := fun h => bad (by unfold jOk; rw [h]; rfl)
 refine S71 (zmn (fun h => badF (by unfold zo3; rw [h]; rfl)) fun g1 => zmn (fun h => badF (by unfold zo3; rw [g1, h]; rfl)) fun g2 => zmn (fun h => badF (by unfold zo3; rw [g1, g2, h]; rfl)) fun g3 => zmn (fun h => badF (by unfold zo3; rw [g1, g2, g3, h]; rfl)) fun g4 => zmn (fun h => badF (by unfold zo3; rw [g1, g2, g3, g4, h]; rfl)) fun g5 => zmn (fun h => badF (by unfold zo3; rw [g1, g2, g3, g4, g5, h]; rfl)) fun g6 => ?_)
 have hfix : zo3 j = (jNum j && (jCop j && zqe j)) := by unfold zo3; rw [g1, g2, g3, g4, g5, g6]; rfl
 intro k1 hk1
 have c1 : k1 (jCop j) := by
  refine hk1 _ ?_
  intro k2 hk2
  have c2 : k2 (jNum j) := by
   refine hk2 _ ?_
   intro k3 hk3
   have c3 : k3 (zqe j) := by
    refine hk3 _ ?_
    cases h2 : jNum j with
    | false => exact badF (by rw [hfix, h2]; rfl)
    | true =>
      cases h1 : jCop j with
      | false => exact badF (by rw [hfix, h2, h1]; rfl)
      | true =>
        cases h3 : zqe j with
        | false => exact badF (by rw [hfix, h2, h1, h3]; rfl)
        | true =>
          refine zxd ?_
          show (bif jSt j then _ else _ : Prop)
          have hok : jOk j = jSt j := by unfold jOk; rw [hfix, h2, h1, h3]; rfl
          rw [hok] at K
          cases h4 : jSt j with
          | true => rw [h4] at K; exact K
          | false => rw [h4] at K; exact K
   refine zhj (by omega) ?_
   show (bif zfe j.needs 32 == 0 then _ else _ : Prop)
   unfold zqe at c3
   simp only [zy2]
   exact kAn c3 fun h => kOr2 h
  unfold jNum inJ at c2
  simp only [z2w] at c2
  exact kAn c2 fun h => kAn h fun h => kAn h fun h => kAn h fun h => kAn h fun h => kAn h fun h => kAn h fun h => h
 unfold jCop at c1
 refine cEq (fun h => ?_) fun h => ?_
 · rw [if_pos h] at c1
   exact kAn c1 fun h => h
 · rw [if_neg h] at c1
   exact c1
def zl2 (w : Nat) (j : Jb) (now : Int) : Bool :=
 match w with
 | 1 => j.st == 1
 | 2 => j.st == 2 && inJ now j.start (j.fin - 1)
 | 3 => j.st == 3
 | 4 => j.st == 2 && decide (now ≥ j.fin)
 | 5 => j.st == 4
 | _ => inJ j.st 1 3
def jDo (w : Nat) (j : Jb) (now : Int) : Jb :=
 match w with
 | 1 => { j with st := 2, start := now, fin := now + j.left }
 | 2 => { j with st := 3, start := 0, fin := 0, left := j.fin - now }
 | 3 => { j with st := 1 }
 | 4 => { j with st := 4, left := 0 }
 | 5 => { j with st := 5 }
 | _ => { j with st := 6, start := 0, fin := 0, left := 0 }
def jE (w : Nat) (j : Jb) (now : Int) : Int := if jOk j = true ∧ inJ now 0 1099511627776 = true then (if zl2 w j now = true then 0 else 9) else 1
def jR (w : Nat) (j : Jb) (now : Int) : Jb := if jE w j now = 0 then jDo w j now else jZ
theorem jE_zero {w : Nat} {j : Jb} {now : Int} : jE w j now = 0 ↔ jOk j = true ∧ inJ now 0 1099511627776 = true ∧ zl2 w j now = true := by
 unfold jE
 constructor
 · intro h
   split at h
   · rename_i hh
     split at h
     · rename_i h2; exact ⟨hh.1, hh.2, h2⟩
     · cases h
   · cases h
 · rintro ⟨h1, h2, h3⟩
   rw [if_pos ⟨h1, h2⟩, if_pos h3]
theorem zqd {j : Jb} (h : jOk j = true) (h2 : j.st = 2) : (0 ≤ j.start ∧ j.start ≤ 1099511627776) ∧ (1 ≤ j.left ∧ j.left ≤ j.time) ∧ j.fin = j.start + j.left ∧ j.time ≤ 1099511627776 := by
 unfold jOk zo3 at h
 simp only [zyy] at h
 obtain ⟨⟨-, -, -, -, -, ht, -⟩, hs⟩ := h
 have ht := (inJ_iff.1 ht).2
 unfold jSt at hs
 rw [if_neg (by omega), if_pos h2] at hs
 simp only [zyy, beq_iff_eq] at hs
 have a1 := inJ_iff.1 hs.1
 have a2 := inJ_iff.1 hs.2.1
 refine ⟨a1, a2, ?_, ht⟩
 rw [hs.2.2, w64 (by omega) (by omega)]
theorem zfy {j : Jb} (h : jOk j = true) (h2 : j.st = 1 ∨ j.st = 3) : j.start = 0 ∧ j.fin = 0 ∧ (1 ≤ j.left ∧ j.left ≤ j.time) ∧ j.time ≤ 1099511627776 := by
 unfold jOk zo3 at h
 simp only [zyy] at h
 obtain ⟨⟨-, -, -, -, -, ht, -⟩, hs⟩ := h
 have ht := (inJ_iff.1 ht).2
 unfold jSt jNone at hs
 rw [if_pos h2] at hs
 simp only [zyy, beq_iff_eq] at hs
 exact ⟨hs.1.1, hs.1.2, inJ_iff.1 hs.2, ht⟩
section
variable {j : Jb} {now : Int}
theorem jbad {w : Nat} (K : Q (.t [jV (jR w j now), .i (jE w j now)]) []) (h : ¬ (jOk j = true ∧ inJ now 0 1099511627776 = true)) : Q (.t [jV jZ, .i 1]) [] := by
 have e : jE w j now = 1 := by unfold jE; rw [if_neg h]
 unfold jR at K
 rw [e, if_neg (by decide)] at K
 exact K
theorem jnot {w : Nat} (K : Q (.t [jV (jR w j now), .i (jE w j now)]) []) (h1 : jOk j = true) (h2 : inJ now 0 1099511627776 = true) (h : zl2 w j now = false) : Q (.t [jV jZ, .i 9]) [] := by
 have e : jE w j now = 9 := by unfold jE; rw [if_pos ⟨h1, h2⟩, if_neg (by rw [h]; decide)]
 unfold jR at K
 rw [e, if_neg (by decide)] at K
 exact K
theorem jyes {w : Nat} (K : Q (.t [jV (jR w j now), .i (jE w j now)]) []) (h1 : jOk j = true) (h2 : inJ now 0 1099511627776 = true) (h : zl2 w j now = true) : Q (.t [jV (jDo w j now), .i 0]) [] := by
 have e : jE w j now = 0 := jE_zero.2 ⟨h1, h2, h⟩
 unfold jR at K
 rw [e, if_pos rfl] at K
 exact K
theorem in00 : inJ 0 0 1099511627776 = true := by decide
theorem jstart_S (hn : j.needs.length ≤ 1000) (K : Q (.t [jV (jR 1 j now), .i (jE 1 j now)]) []) : PRun Tryz.prog 294 [] [jV j, .i now] Q := by
 refine S294 (zev hn ?_)
 rw [zaw]
 cases h1 : jOk j with
 | false => exact jbad K fun h => by rw [h1] at h; cases h.1
 | true =>
   refine cNe (fun h => absurd rfl h) fun _ => zmn (fun h2 => jbad K fun h => by rw [h2] at h; cases h.2) fun h2 => ?_
   cases h3 : (j.st == 1) with
   | false => exact jnot K h1 h2 h3
   | true =>
     have h4 := zfy h1 (.inl (eq_of_beq h3))
     have h5 := inJ_iff.1 h2
     have := jyes K h1 h2 h3
     show Q (.t [.a [_, _, _, _, _, _, _, _, _, _, _, _, _, _, .i (zyu .i64 (now + j.left)), _], _]) _
     rw [w64 (by omega) (by omega)]
     exact this
theorem jpause_S (hn : j.needs.length ≤ 1000) (K : Q (.t [jV (jR 2 j now), .i (jE 2 j now)]) []) : PRun Tryz.prog 101 [] [jV j, .i now] Q := by
 refine S101 (zev hn ?_)
 rw [zaw]
 cases h1 : jOk j with
 | false => exact jbad K fun h => by rw [h1] at h; cases h.1
 | true =>
   refine cNe (fun h => absurd rfl h) fun _ => zmn (fun h2 => jbad K fun h => by rw [h2] at h; cases h.2) fun h2 => cEq (fun h3 => ?_) fun h3 => ?_
   · have h4 := zqd h1 h3
     have h5 := inJ_iff.1 h2
     rw [w64 (x := j.fin - 1) (by omega) (by omega), w64 (x := j.fin - now) (by omega) (by omega)]
     refine zmn (fun h6 => jnot K h1 h2 ?_) fun h6 => jyes K h1 h2 ?_
     · show (j.st == 2 && inJ now j.start (j.fin - 1)) = false
       rw [h6, Bool.and_false]
     · show (j.st == 2 && inJ now j.start (j.fin - 1)) = true
       rw [h6, h3]; rfl
   · refine jnot K h1 h2 ?_
     show (j.st == 2 && inJ now j.start (j.fin - 1)) = false
     rw [beq_eq_false_iff_ne.2 h3, Bool.false_and]
theorem zxe (hn : j.needs.length ≤ 1000) (K : Q (.t [jV (jR 3 j 0), .i (jE 3 j 0)]) []) : PRun Tryz.prog 103 [] [jV j] Q := by
 refine S103 (zev hn ?_)
 rw [zaw]
 cases h1 : jOk j with
 | false => exact jbad K fun h => by rw [h1] at h; cases h.1
 | true =>
   refine cNe (fun h => absurd rfl h) fun _ => ?_
   cases h3 : (j.st == 3) with
   | false => exact jnot K h1 in00 h3
   | true => exact jyes K h1 in00 h3
theorem zxf (hn : j.needs.length ≤ 1000) (K : Q (.t [jV (jR 4 j now), .i (jE 4 j now)]) []) : PRun Tryz.prog 114 [] [jV j, .i now] Q := by
 refine S114 (zev hn ?_)
 rw [zaw]
 cases h1 : jOk j with
 | false => exact jbad K fun h => by rw [h1] at h; cases h.1
 | true =>
   refine cNe (fun h => absurd rfl h) fun _ => zmn (fun h2 => jbad K fun h => by rw [h2] at h; cases h.2) fun h2 => cEq (fun h3 => ?_) fun h3 => ?_
   · cases h6 : decide (now ≥ j.fin) with
     | false => exact jnot K h1 h2 (by show (j.st == 2 && decide (now ≥ j.fin)) = false; rw [h6, Bool.and_false])
     | true => exact jyes K h1 h2 (by show (j.st == 2 && decide (now ≥ j.fin)) = true; rw [h6, h3]; rfl)
   · exact jnot K h1 h2 (by show (j.st == 2 && decide (now ≥ j.fin)) = false; rw [beq_eq_false_iff_ne.2 h3, Bool.false_and])
theorem zty (hn : j.needs.length ≤ 1000) (K : Q (.t [jV (jR 5 j 0), .i (jE 5 j 0)]) []) : PRun Tryz.prog 95 [] [jV j] Q := by
 refine S95 (zev hn ?_)
 rw [zaw]
 cases h1 : jOk j with
 | false => exact jbad K fun h => by rw [h1] at h; cases h.1
 | true =>
   refine cNe (fun h => absurd rfl h) fun _ => ?_
   cases h3 : (j.st == 4) with
   | false => exact jnot K h1 in00 h3
   | true => exact jyes K h1 in00 h3
theorem zxg (hn : j.needs.length ≤ 1000) (K : Q (.t [jV (jR 6 j 0), .i (jE 6 j 0)]) []) : PRun Tryz.prog 108 [] [jV j] Q := by
 refine S108 (zev hn ?_)
 rw [zaw]
 cases h1 : jOk j with
 | false => exact jbad K fun h => by rw [h1] at h; cases h.1
 | true => exact cNe (fun h => absurd rfl h) fun _ => zmn (fun h3 => jnot K h1 in00 h3) fun h3 => jyes K h1 in00 h3
theorem zvh {k : Int} (K : Q (.i (if k = 1 then 0 else 1)) []) : PRun Tryz.prog 106 [] [.i k] Q := by
 refine S106 (cEq (fun h => ?_) fun h => ?_)
 · rw [if_pos h] at K; exact K
 · rw [if_neg h] at K; exact K
def zfz (j : Jb) : Bool := inJ j.st 1 4
theorem jopen_S (K : Q (.u (.b (zfz j))) []) : PRun Tryz.prog 183 [] [jV j] Q := by
 refine S183 ?_
 generalize hk : (fun b => Q (.u (.b b)) []) = k
 have e : ∀ b, Q (.u (.b b)) [] = k b := fun b => by rw [← hk]
 rw [e] at K
 simp only [e]
 exact kAn K fun h => h
end
end
section
set_option maxRecDepth 100000
theorem zg5 : Tryz.prog.follows .mixedOrders = true := by kernel_rfl
theorem S180 {k l m : Int} {i : List (List U)} (hh : PRun Tryz.prog 282 [] [.l 4 a, .i b] (post q8 [] (fun c d e f g => (Q (.t [(q16 c d e f), .i g]) [] : Prop)))) : PRun Tryz.prog 180 [] [(q24 h i j a k l m n), .i b] Q :=
 zad zg5 Tryz.func180 (by kernel_rfl) (H := ⟨[], [], [], [], [], false, 64, KN.no, false, SP.no⟩) (n := 2) (by kernel_rfl) hh
theorem S182 {k l o q : Int} {m : List (List U)} (hh : PRun Tryz.prog 284 [] [.l 7 a, .i b] (post q11 [] (fun c d e f g h i j => (Q (.t [(q22 c d e f g h i), .i j]) [] : Prop)))) : PRun Tryz.prog 182 [] [(q24 k a l m n o p q), .i b] Q :=
 zad zg5 Tryz.func182 (by kernel_rfl) (H := ⟨[], [], [], [], [], false, 64, KN.no, false, SP.no⟩) (n := 2) (by kernel_rfl) hh
theorem S186 {e c a : Int} {g : List (List U)} (hh : PRun Tryz.prog 285 [] [(q22 d e f g h c i), .l 3 [[.n a, .n 0, .n 10], [.n b, .n 1, .n (zyu .i64 (10 - a))]]] (post [.B] [] (fun j => (bif !j then Q (.t [.i 0, .i 1]) [] else (2 : Int) ≠ 0 ∧ (Q (.t [.i (zyu .i64 (Int.tdiv (zyu .i64 (c * zyu .i64 (zyu .i64 (zyu .i64 (a + b) * zyu .i64 (zyu .i64 (a + b) + 1)) - zyu .i64 (a * zyu .i64 (a + 1))))) 2)), .i 0]) []) : Prop)))) : PRun Tryz.prog 186 [] [(q22 d e f g h c i), .i a, .i b] Q :=
 zad zg5 Tryz.func186 (by kernel_rfl) (H := ⟨[], [], [], [], [], false, 64, KN.no, false, SP.no⟩) (n := 2) (by kernel_rfl) hh
theorem S187 {e a c : Int} {h : List (List U)} (hh : PRun Tryz.prog 285 [] [(q22 e f g h a i b), .l 3 [[.n c, .n 1, .n 10], [.n d, .n 1, .n b]]] (post [.B] [] (fun j => (bif !j then Q (.t [.i 0, .i 1]) [] else Q (.t [.i (zyu .i64 (zyu .i64 (a * c) * d)), .i 0]) [] : Prop)))) : PRun Tryz.prog 187 [] [(q22 e f g h a i b), .i c, .i d] Q :=
 zad zg5 Tryz.func187 (by kernel_rfl) (H := ⟨[], [], [], [], [], false, 64, KN.no, false, SP.no⟩) (n := 2) (by kernel_rfl) hh
theorem S203 {a c : Int} (hh : PRun Tryz.prog 285 [] [(q22 a b d e f g h), .l 3 [[.n c, .n 1, .n 1000]]] (post [.B] [] (fun i => (bif !i then Q (.t [.a [.i 0, .i 0], .i 1]) [] else Q (.t [.a [.i a, .i (zyu .i64 (b * c))], .i 0]) [] : Prop)))) : PRun Tryz.prog 203 [] [(q22 a b d e f g h), .i c] Q :=
 zad zg5 Tryz.func203 (by kernel_rfl) (H := ⟨[], [], [], [], [], false, 64, KN.no, false, SP.no⟩) (n := 2) (by kernel_rfl) hh
theorem S188 {a : Int} (hh : bif decide (a ≥ 0) then (bif !(decide (a ≤ 10000)) then Q (.t [.i 0, .i 1]) [] else (bif decide (b < 0) then Q (.t [.i 0, .i 1]) [] else (bif decide (b > 1099511627776) then Q (.t [.i 0, .i 1]) [] else PRun Tryz.prog 286 [] [.i b, .i a, .i 10000, .u (.b true)] (post q10 [] (fun c d => (Q (.t [.i c, .i d]) [] : Prop)))))) else Q (.t [.i 0, .i 1]) []) : PRun Tryz.prog 188 [] [.i a, .i b] Q :=
 zad zg5 Tryz.func188 (by kernel_rfl) (H := ⟨[], [], [287], [], [], false, 64, KN.no, false, SP.no⟩) (n := 3) (by kernel_rfl) hh
theorem S282 (hh : bif decide (b ≥ 1) then (bif !(decide (b ≤ (zyv c : Int))) then Q (.t [(q16 0 0 0 0), .i 3]) [] else elL c (zyu .i64 (b - 1)) (fun a => dI .i64 (ug a 0) (fun d => dI .i64 (ug a 1) (fun e => dI .i64 (ug a 2) (fun f => dI .i64 (ug a 3) (fun g => Q (.t [(q16 d e f g), .i 0]) [])))))) else Q (.t [(q16 0 0 0 0), .i 3]) []) : PRun Tryz.prog 282 [] [.l 4 c, .i b] Q :=
 zad zg5 Tryz.func282 (by kernel_rfl) (H := ⟨[], [], [268], [], [], false, 64, KN.no, false, SP.no⟩) (n := 3) (by kernel_rfl) hh
theorem S284 (hh : bif decide (b ≥ 1) then (bif !(decide (b ≤ (zyv c : Int))) then Q (.t [(q22 0 0 0 [] 0 0 0), .i 3]) [] else elL c (zyu .i64 (b - 1)) (fun a => dI .i64 (ug a 0) (fun d => dI .i64 (ug a 1) (fun e => dI .i64 (ug a 2) (fun f => dL 2 (ug a 3) (fun g => dI .i64 (ug a 4) (fun h => dI .i64 (ug a 5) (fun i => dI .i64 (ug a 6) (fun j => Q (.t [(q22 d e f g h i j), .i 0]) []))))))))) else Q (.t [(q22 0 0 0 [] 0 0 0), .i 3]) []) : PRun Tryz.prog 284 [] [.l 7 c, .i b] Q :=
 zad zg5 Tryz.func284 (by kernel_rfl) (H := ⟨[], [], [268], [], [], false, 64, KN.no, false, SP.no⟩) (n := 3) (by kernel_rfl) hh
end
section
set_option maxRecDepth 100000
theorem zfu : Tryz.prog.follows .mixedOrders = true := by kernel_rfl
theorem S280 {g : List (List U)} {k : Int} (hh : ∃ (e : Int → Int → Prop) (f : Int → Int → Nat), e 0 (zyv g : Int) ∧ (∀ a d : Int, e a d → (bif decide (a < d) then 0 ≤ (1 : Int) ∧ (elL g (zyu .i64 (Int.fdiv (zyu .u64 (zyu .i64 (a + d))) (2 ^ (1)))) (fun b => dI .i64 (ug b 0) (fun l => dI .i64 (ug b 1) (fun m => dI .i64 (ug b 2) (fun n => dI .i64 (ug b 3) (fun o => dI .i64 (ug b 4) (fun v => dI .i64 (ug b 5) (fun w => dI .i64 (ug b 6) (fun x => dI .i64 (ug b 7) (fun y => dI .i64 (ug b 8) (fun α => dI .i64 (ug b 9) (fun β => dI .i64 (ug b 10) (fun γ => dI .i64 (ug b 11) (fun δ => dI .i64 (ug b 12) (fun ε => PRun Tryz.prog 279 [] [(q16 l m n o), q16 h i j k] (post q7 [] (fun p => (bif decide (p < 0) then e (zyu .i64 (zyu .i64 (Int.fdiv (zyu .u64 (zyu .i64 (a + d))) (2 ^ (1))) + 1)) d ∧ f (zyu .i64 (zyu .i64 (Int.fdiv (zyu .u64 (zyu .i64 (a + d))) (2 ^ (1))) + 1)) d < f a d else e a (zyu .i64 (Int.fdiv (zyu .u64 (zyu .i64 (a + d))) (2 ^ (1)))) ∧ f a (zyu .i64 (Int.fdiv (zyu .u64 (zyu .i64 (a + d))) (2 ^ (1)))) < f a d : Prop)))))))))))))))))) else (bif decide (a < (zyv g : Int)) then elL g a (fun c => dI .i64 (ug c 0) (fun q => dI .i64 (ug c 1) (fun r => dI .i64 (ug c 2) (fun s => dI .i64 (ug c 3) (fun t => dI .i64 (ug c 4) (fun ζ => dI .i64 (ug c 5) (fun η => dI .i64 (ug c 6) (fun θ => dI .i64 (ug c 7) (fun ι => dI .i64 (ug c 8) (fun κ => dI .i64 (ug c 9) (fun μ => dI .i64 (ug c 10) (fun ν => dI .i64 (ug c 11) (fun ξ => dI .i64 (ug c 12) (fun ο => PRun Tryz.prog 279 [] [(q16 q r s t), q16 h i j k] (post q7 [] (fun u => (Q (.t [.i a, .u (.b (u == 0))]) [] : Prop))))))))))))))))) else Q (.t [.i a, .u (.b false)]) [])))) : PRun Tryz.prog 280 [] [.l 13 g, q16 h i j k, .f 281 [] []] Q :=
 zad zfu Tryz.func280 (by kernel_rfl) (H := ⟨[((280, 3, 1), ⟨[(9, .I), (10, .I)], []⟩)], [], [281], [], [], false, 64, KN.no, false, SP.no⟩) (n := 3) (by kernel_rfl) hh
theorem S80 {m k l e : Int} (hh : ∀ b : Bool → Prop, (∀ c : Bool, (∀ a : Bool → Prop, (∀ d : Bool, ((bif c then (bif d then (bif decide (e ≥ 0) then Q (.u (.b (decide (e ≤ 1099511627776)))) [] else Q (.u (.b false)) []) else Q (.u (.b false)) []) else Q (.u (.b false)) [])) → a d) → (bif decide (f ≥ 1) then (bif decide (f ≤ 16) then (bif decide (g ≥ 0) then (bif decide (g ≤ 10) then (bif decide (h ≥ 0) then (bif decide (h ≤ 10) then (bif decide (i ≥ -1) then a (decide (i ≤ 1000)) else a false) else a false) else a false) else a false) else a false) else a false) else a false)) → b c) → (bif decide (j ≥ 0) then (bif decide (j ≤ 1099511627776) then (bif decide (k ≥ 0) then (bif decide (k ≤ 4) then (bif decide (l ≥ 1) then b (decide (l ≤ 8)) else b false) else b false) else b false) else b false) else b false)) : PRun Tryz.prog 80 [] [(q25 m j k l f g h i e)] Q :=
 zad zfu Tryz.func80 (by kernel_rfl) (H := ⟨[], [((80, 2, 1), ⟨[(3, .B)], []⟩), ((80, 3, 1), ⟨[(4, .B)], []⟩)], [177], [], [], false, 64, KN.no, false, SP.no⟩) (n := 3) (by kernel_rfl) hh
theorem S181 {b : List (List U)} {c o : Int} (hh : (dup2 (PRun Tryz.prog 280 [] [.l 13 b, q16 o 0 0 0, .f 281 [] []] (post q12 [] (fun d e => (bif !e then Q (.t [(q25 0 0 0 0 0 0 0 0 0), .i 3]) [.c [.l 13 b, .i c]] else elL b d (fun a => dI .i64 (ug a 4) (fun f => dI .i64 (ug a 5) (fun g => dI .i64 (ug a 6) (fun h => dI .i64 (ug a 7) (fun i => dI .i64 (ug a 8) (fun j => dI .i64 (ug a 9) (fun k => dI .i64 (ug a 10) (fun l => dI .i64 (ug a 11) (fun m => dI .i64 (ug a 12) (fun n => Q (.t [(q25 f g h i j k l m n), .i 0]) [.c [.l 13 b, .i c]])))))))))) : Prop))))) ∧ (PRun Tryz.prog 280 [] [.l 13 b, q16 o 0 0 0, .f 281 [] []] (post q12 [] (fun d e => (bif !e then Q (.t [(q25 0 0 0 0 0 0 0 0 0), .i 3]) [.c [.l 13 b, .i c]] else elL b d (fun a => dI .i64 (ug a 4) (fun f => dI .i64 (ug a 5) (fun g => dI .i64 (ug a 6) (fun h => dI .i64 (ug a 7) (fun i => dI .i64 (ug a 8) (fun j => dI .i64 (ug a 9) (fun k => dI .i64 (ug a 10) (fun l => dI .i64 (ug a 11) (fun m => dI .i64 (ug a 12) (fun n => Q (.t [(q25 f g h i j k l m n), .i 0]) [.c [.l 13 b, .i c]])))))))))) : Prop))))) : PRun Tryz.prog 181 [.c [.l 13 b, .i c]] [.r 0 0, .i o] Q :=
 zad zfu Tryz.func181 (by kernel_rfl) (H := ⟨[], [], [83, 179, 267, 283], [], [], false, 64, KN.no, false, SP.no⟩) (n := 5) (by kernel_rfl) hh
theorem S82 {s c e k l m o q : Int} (hh : PRun Tryz.prog 280 [] [.l 13 a, q16 c d e f, .f 281 [] []] (post q12 [] (fun b r => (0 ≤ b ∧ (b ≤ (zyv a : Int) ∧ (zyv a : Int) ≤ (zyv a : Int) ∧ (∀ g : List (List U) → Prop, (∀ h : List (List U), ((0 : Int) ≤ b ∧ b ≤ (zyv a : Int) ∧ b = b ∧ (zan (List.take (zyx b) a) [[.n c, .n d, .n e, .n f, .n i, .n j, .n k, .n l, .n m, .n n, .n o, .n p, .n q]] ∧ (zan (List.take (zyx b) a ++ [[.n c, .n d, .n e, .n f, .n i, .n j, .n k, .n l, .n m, .n n, .n o, .n p, .n q]]) h ∧ (Q (.u (.b (!r))) [.c [.w 1, .i s], .w 283 13 (List.take (zyx b) a ++ [[.n c, .n d, .n e, .n f, .n i, .n j, .n k, .n l, .n m, .n n, .n o, .n p, .n q]] ++ h)])))) → g h) → (bif r then 0 ≤ (1 : Int) ∧ ((1 : Int) ≤ (zyv (List.drop (zyx b) (List.take (zyv a) a)) : Int) ∧ (zyv (List.drop (zyx b) (List.take (zyv a) a)) : Int) ≤ (zyv (List.drop (zyx b) (List.take (zyv a) a)) : Int) ∧ (g (List.drop 1 (List.take (zyv (List.drop (zyx b) (List.take (zyv a) a))) (List.drop (zyx b) (List.take (zyv a) a)))))) else g (List.drop (zyx b) (List.take (zyv a) a))))) : Prop)))) : PRun Tryz.prog 82 [.c [.l 13 a, .i s]] [.r 0 0, q16 c d e f, q25 i j k l m n o p q] Q :=
 zad zfu Tryz.func82 (by kernel_rfl) (H := ⟨[], [((82, 7, 4), ⟨[(9, .L 13)], []⟩)], [179, 267], [], [], false, 64, KN.no, false, SP.no⟩) (n := 4) (by kernel_rfl) hh
theorem S90 {r e : Int} (hh : PRun Tryz.prog 181 [.c [.l 13 q, .i r]] [.r 0 0, .i e] (post q5 q4 (fun h i j k l m n a s o b c => (bif o != 0 then Q (.i o) [.c [.l 13 b, .i c]] else ∀ f : Bool → Prop, (∀ p : Bool, ((bif p then Q (.i 1) [.c [.l 13 b, .i c]] else (bif s != 0 then Q (.i 12) [.c [.l 13 b, .i c]] else (bif a != -1 then (bif decide (a < g) then Q (.i 11) [.c [.l 13 b, .i c]] else (bif a != -1 then PRun Tryz.prog 82 [.c [.l 13 b, .i c]] [.r 0 0, q16 e 0 0 0, q25 h i j k l m n (zyu .i64 (a - g)) d] (post [.B] q4 (fun γ t u => (Q (.i 0) [.c [.l 13 t, .i u]] : Prop))) else PRun Tryz.prog 82 [.c [.l 13 b, .i c]] [.r 0 0, q16 e 0 0 0, q25 h i j k l m n a d] (post [.B] q4 (fun δ v w => (Q (.i 0) [.c [.l 13 v, .i w]] : Prop))))) else (bif a != -1 then PRun Tryz.prog 82 [.c [.l 13 b, .i c]] [.r 0 0, q16 e 0 0 0, q25 h i j k l m n (zyu .i64 (a - g)) d] (post [.B] q4 (fun ε x y => (Q (.i 0) [.c [.l 13 x, .i y]] : Prop))) else PRun Tryz.prog 82 [.c [.l 13 b, .i c]] [.r 0 0, q16 e 0 0 0, q25 h i j k l m n a d] (post [.B] q4 (fun ζ α β => (Q (.i 0) [.c [.l 13 α, .i β]] : Prop)))))))) → f p) → (bif decide (d ≥ 1) then (bif decide (d ≤ 1099511627776) then (bif decide (g ≥ 0) then f (!(decide (g ≤ 1000))) else f true) else f true) else f true) : Prop)))) : PRun Tryz.prog 90 [.c [.l 13 q, .i r]] [.r 0 0, .i e, .i d, .i g] Q :=
 zad zfu Tryz.func90 (by kernel_rfl) (H := ⟨[], [((197, 2, 4), ⟨[(5, .B)], []⟩)], [83, 177, 196, 197, 198], [], [], false, 64, KN.no, false, SP.no⟩) (n := 6) (by kernel_rfl) hh
theorem S97 {r : Int} (hh : PRun Tryz.prog 181 [.c [.l 13 q, .i r]] [.r 0 0, .i d] (post q5 q4 (fun g h i j k l m a s o b c => (bif o != 0 then Q (.i o) [.c [.l 13 b, .i c]] else ∀ e : Bool → Prop, (∀ p : Bool, ((bif p then Q (.i 1) [.c [.l 13 b, .i c]] else (bif s != n then Q (.i 9) [.c [.l 13 b, .i c]] else (bif a != -1 then (bif decide (zyu .i64 (a + f) > 1000) then Q (.i 11) [.c [.l 13 b, .i c]] else (bif a != -1 then PRun Tryz.prog 82 [.c [.l 13 b, .i c]] [.r 0 0, q16 d 0 0 0, q25 g h i j k l m (zyu .i64 (a + f)) 0] (post [.B] q4 (fun γ t u => (Q (.i 0) [.c [.l 13 t, .i u]] : Prop))) else PRun Tryz.prog 82 [.c [.l 13 b, .i c]] [.r 0 0, q16 d 0 0 0, q25 g h i j k l m a 0] (post [.B] q4 (fun δ v w => (Q (.i 0) [.c [.l 13 v, .i w]] : Prop))))) else (bif a != -1 then PRun Tryz.prog 82 [.c [.l 13 b, .i c]] [.r 0 0, q16 d 0 0 0, q25 g h i j k l m (zyu .i64 (a + f)) 0] (post [.B] q4 (fun ε x y => (Q (.i 0) [.c [.l 13 x, .i y]] : Prop))) else PRun Tryz.prog 82 [.c [.l 13 b, .i c]] [.r 0 0, q16 d 0 0 0, q25 g h i j k l m a 0] (post [.B] q4 (fun ζ α β => (Q (.i 0) [.c [.l 13 α, .i β]] : Prop)))))))) → e p) → (bif decide (n ≥ 1) then (bif decide (n ≤ 1099511627776) then (bif decide (f ≥ 0) then e (!(decide (f ≤ 1000))) else e true) else e true) else e true) : Prop)))) : PRun Tryz.prog 97 [.c [.l 13 q, .i r]] [.r 0 0, .i d, .i n, .i f] Q :=
 zad zfu Tryz.func97 (by kernel_rfl) (H := ⟨[], [((208, 2, 4), ⟨[(5, .B)], []⟩)], [83, 177, 196, 198, 208], [], [], false, 64, KN.no, false, SP.no⟩) (n := 6) (by kernel_rfl) hh
theorem S206 {i : List (List U)} {e c : Int} (hh : PRun Tryz.prog 181 [.c [.l 13 i, .i j]] [.r 0 0, .i e] (post q5 q4 (fun k l m n o f g p q h a b => (bif h != 0 then Q (.i h) [.c [.l 13 a, .i b]] else (bif decide (c < 0) then Q (.i 1) [.c [.l 13 a, .i b]] else (bif decide (d < 0) then Q (.i 1) [.c [.l 13 a, .i b]] else (bif decide (c > zyu .i64 (10 - f)) then Q (.i 11) [.c [.l 13 a, .i b]] else (bif decide (d > zyu .i64 (10 - g)) then Q (.i 11) [.c [.l 13 a, .i b]] else PRun Tryz.prog 82 [.c [.l 13 a, .i b]] [.r 0 0, q16 e 0 0 0, q25 k l m n o (zyu .i64 (f + c)) (zyu .i64 (g + d)) p q] (post [.B] q4 (fun t r s => (Q (.i 0) [.c [.l 13 r, .i s]] : Prop))))))) : Prop)))) : PRun Tryz.prog 206 [.c [.l 13 i, .i j]] [.r 0 0, .i e, .i c, .i d] Q :=
 zad zfu Tryz.func206 (by kernel_rfl) (H := ⟨[], [], [83, 196, 299], [], [], false, 64, KN.no, false, SP.no⟩) (n := 4) (by kernel_rfl) hh
theorem S28 {b : List (List U)} {a k e c : Int} (hh : PRun Tryz.prog 80 [] [(q25 k d e f g h i j c)] (post [.B] [] (fun l => (bif !l then Q (.t [.i 0, .i 1]) [.c [.l 13 b, .i a]] else (bif c != 0 then Q (.t [.i 0, .i 1]) [.c [.l 13 b, .i a]] else (bif decide (zyu .i64 ((zyv b : Int) + 1) ≤ 64) then (bif !(decide (zyu .i64 (a + 1) ≤ 1099511627775)) then Q (.t [.i 0, .i 4]) [.c [.l 13 b, .i a]] else PRun Tryz.prog 82 [.c [.l 13 b, .i (zyu .i64 (a + 1))]] [.r 0 0, q16 (zyu .i64 (a + 1)) 0 0 0, q25 (zyu .i64 (a + 1)) d e f g h i j c] (post [.B] q4 (fun o m n => (Q (.t [.i (zyu .i64 (a + 1)), .i 0]) [.c [.l 13 m, .i n]] : Prop)))) else Q (.t [.i 0, .i 4]) [.c [.l 13 b, .i a]])) : Prop)))) : PRun Tryz.prog 28 [.c [.l 13 b, .i a]] [.r 0 0, q25 k d e f g h i j c] Q :=
 zad zfu Tryz.func28 (by kernel_rfl) (H := ⟨[], [], [68, 81, 83, 178, 267], [], [], false, 64, KN.no, false, SP.no⟩) (n := 5) (by kernel_rfl) hh
theorem S207 {q : Int} (hh : PRun Tryz.prog 181 [.c [.l 13 o, .i p]] [.r 0 0, .i q] (post q5 q4 (fun r s t u v w x y α k a b => (bif k != 0 then Q (.t [.l 1 [], .i k]) [.c [.l 13 a, .i b]] else (bif decide (d ≥ 1) then (bif !(decide (d ≤ 10)) then Q (.t [.l 1 [], .i 1]) [.c [.l 13 a, .i b]] else (bif decide (h ≥ 1) then (bif !(decide (h ≤ 1000)) then Q (.t [.l 1 [], .i 1]) [.c [.l 13 a, .i b]] else (bif y != -1 then Q (.t [.l 1 [], .i 9]) [.c [.l 13 a, .i b]] else (bif decide (zyu .i64 ((zyv a : Int) + d) ≤ 64) then (bif !(decide (zyu .i64 (b + 1) ≤ zyu .i64 (1099511627776 - d))) then Q (.t [.l 1 [], .i 4]) [.c [.l 13 a, .i b]] else ∃ (i : List (List U) → Int → List (List U) → Int → Prop) (l : List (List U) → Int → List (List U) → Int → Nat), i [] 0 a b ∧ (∀ c : List (List U), ∀ e : Int, ∀ f : List (List U), ∀ g : Int, i c e f g → (bif decide (e < d) then PRun Tryz.prog 28 [.c [.l 13 f, .i g]] [.r 0 0, q25 r s t u v w x h 0] (post q10 q4 (fun j β m n => (zan c [[.n j]] ∧ (i (c ++ [[.n j]]) (zyu .i64 (e + 1)) m n ∧ l (c ++ [[.n j]]) (zyu .i64 (e + 1)) m n < l c e f g) : Prop))) else Q (.t [.l 1 c, .i 0]) [.c [.l 13 f, .i g]]))) else Q (.t [.l 1 [], .i 4]) [.c [.l 13 a, .i b]]))) else Q (.t [.l 1 [], .i 1]) [.c [.l 13 a, .i b]])) else Q (.t [.l 1 [], .i 1]) [.c [.l 13 a, .i b]]) : Prop)))) : PRun Tryz.prog 207 [.c [.l 13 o, .i p]] [.r 0 0, .i q, .i d, .i h] Q :=
 zad zfu Tryz.func207 (by kernel_rfl) (H := ⟨[((207, 13, 2), ⟨[(12, .one (.ow 3 1)), (47, .I)], [(0, .c [.l 13, .i .i64])]⟩)], [], [68, 81, 177, 178, 267], [], [], false, 64, KN.no, false, SP.no⟩) (n := 5) (by kernel_rfl) hh
end
section
set_option maxRecDepth 1000000
variable {Q : V → Mem → Prop}
structure Dr where
 id : Int
 own : Int
 div : Int
 place : Int
 blue : Int
 me : Int
 te : Int
 runs : Int
 busy : Int
abbrev rV (d : Dr) : V := .a [.i d.id, .i d.own, .i d.div, .i d.place, .i d.blue, .i d.me, .i d.te, .i d.runs, .i d.busy]
def eD (d : Dr) : List U := [.n d.id, .n 0, .n 0, .n 0, .n d.id, .n d.own, .n d.div, .n d.place, .n d.blue, .n d.me, .n d.te, .n d.runs, .n d.busy]
def dRw (d : Dr) : List U := [.n d.id, .n d.own, .n d.div, .n d.place, .n d.blue, .n d.me, .n d.te, .n d.runs, .n d.busy]
def rZ : Dr := ⟨0, 0, 0, 0, 0, 0, 0, 0, 0⟩
abbrev drB (ds : List Dr) (g : Int) : AB := .c [.l 13 (ds.map eD), .i g]
def DNum (ds : List Dr) : Prop := ∀ (i : Nat) (d : Dr), ds[i]? = some d → d.id = (i : Int) + 1
def posD (n : Nat) (id : Int) : Nat := min (id - 1).toNat n
theorem keyLt {a : Int} : (K4.mk a 0 0 0).lt ⟨b, 0, 0, 0⟩ ↔ a < b := by unfold K4.lt; simp only; omega
theorem zvl {ds : List Dr} (hd : DNum ds) (hl : ds.length ≤ 100000) (k : Q (.t [.i (posD ds.length id : Nat), .u (.b (decide (1 ≤ id ∧ id ≤ (ds.length : Int))))]) []) :
 PRun Tryz.prog 280 [] [.l 13 (ds.map eD), kV ⟨id, 0, 0, 0⟩, .f 281 [] []] Q := by
 have hlen : ((ds.map eD).length : Int) = (ds.length : Int) := by rw [zy2]
 refine S280 ⟨fun x y => ∃ a b : Nat, x = (a : Int) ∧ y = (b : Int) ∧ a ≤ b ∧ b ≤ ds.length ∧ ((a : Int) < id ∨ a = 0) ∧ (id ≤ (b : Int) + 1 ∨ b = ds.length), fun x y => (y - x).toNat, ⟨0, ds.length, rfl, hlen, zzv _, zy9 _, .inr rfl, .inr rfl⟩, ?_⟩
 rintro _ _ ⟨a, b, rfl, rfl, hab, hbl, h1, h2⟩
 refine cIf (fun h => ?_) fun h => ?_
 · have hlt : a < b := by omega
   have e1 : zyu .i64 ((a : Int) + b) = (a : Int) + b := w64 (by omega) (by omega)
   have e2 : zyu .u64 ((a : Int) + b) = (a : Int) + b := by rw [z2v]; omega
   have e3 : Int.fdiv ((a : Int) + b) (2 ^ 1) = (((a + b) / 2 : Nat) : Int) := by
    rw [← Int.natCast_add]
    show Int.fdiv ((a + b : Nat) : Int) 2 = _
    rw [z23 _ (by omega)]
    omega
   have e4 : zyu .i64 (((a + b) / 2 : Nat) : Int) = (((a + b) / 2 : Nat) : Int) := w64 (by omega) (by omega)
   rw [e1, e2, show ((2 : Int) ^ (1 : Nat)) = 2 ^ 1 from rfl, e3, e4]
   generalize hm : (a + b) / 2 = m
   have hml : m < ds.length := by omega
   have hg := zy0 hml
   have hid := hd m _ hg
   refine ⟨by omega, ?_⟩
   rw [zah (r := eD ds[m]) (by omega) (by simp [hml])]
   simp only [eD, ug0, ugs, zbs]
   refine zsw (x := ⟨ds[m].id, 0, 0, 0⟩) (y := ⟨id, 0, 0, 0⟩) ?_
   rw [zaw]
   have e5 : zyu .i64 ((m : Int) + 1) = ((m + 1 : Nat) : Int) := by rw [w64 (by omega) (by omega)]; omega
   rw [e5]
   refine cIf (fun hc => ?_) fun hc => ?_
   · rw [zho, keyLt] at hc
     exact ⟨⟨m + 1, b, rfl, rfl, by omega, hbl, .inl (by omega), h2⟩, by omega⟩
   · rw [zho, keyLt] at hc
     exact ⟨⟨a, m, rfl, rfl, by omega, by omega, h1, .inl (by omega)⟩, by omega⟩
 · have : a = b := by omega
   subst this
   have hp : posD ds.length id = a := by unfold posD; omega
   rw [hp] at k
   rw [hlen]
   refine cIf (fun hlt => ?_) fun hge => ?_
   · have hal : a < ds.length := by omega
     have hg := zy0 hal
     have hid := hd a _ hg
     rw [zah (r := eD ds[a]) (by omega) (by simp [hal])]
     simp only [eD, ug0, ugs, zbs]
     refine zsw (x := ⟨ds[a].id, 0, 0, 0⟩) (y := ⟨id, 0, 0, 0⟩) ?_
     rw [zaw]
     have : (cmpK ⟨ds[a].id, 0, 0, 0⟩ ⟨id, 0, 0, 0⟩ == 0) = decide (1 ≤ id ∧ id ≤ (ds.length : Int)) := by
      rw [Bool.eq_iff_iff, beq_iff_eq, cmpK_zero, decide_eq_true_eq]
      constructor
      · intro h
        have := congrArg K4.a h
        simp only at this
        omega
      · intro h
        rw [show ds[a].id = id by omega]
     rw [this]
     exact k
   · rw [decide_eq_false (by omega)] at k
     exact k
theorem zwh {F : Int → Bool → Prop} {x : Bool} : post [.I, .B] [] F (.t [.i n, .u (.b x)]) [] = F n x := rfl
theorem zxw {ds : List Dr} (hd : DNum ds) (hl : ds.length ≤ 100000) (k1 : (id < 1 ∨ (ds.length : Int) < id) → Q (.t [rV rZ, .i 3]) [drB ds g])
 (k2 : ∀ (i : Nat) (d : Dr), ds[i]? = some d → id = (i : Int) + 1 → Q (.t [rV d, .i 0]) [drB ds g]) : PRun Tryz.prog 181 [drB ds g] [.r 0 0, .i id] Q := by
 have main : PRun Tryz.prog 280 [] [.l 13 (ds.map eD), kV ⟨id, 0, 0, 0⟩, .f 281 [] []] (post [.I, .B] [] (fun x1 b1 => (bif !b1 then Q (.t [.a [.i 0, .i 0, .i 0, .i 0, .i 0, .i 0, .i 0, .i 0, .i 0], .i 3]) [.c [.l 13 (ds.map eD), .i g]] else elL (ds.map eD) x1 (fun r1 => dI .i64 (ug r1 4) (fun x2 => dI .i64 (ug r1 5) (fun x3 => dI .i64 (ug r1 6) (fun x4 => dI .i64 (ug r1 7) (fun x5 => dI .i64 (ug r1 8) (fun x6 => dI .i64 (ug r1 9) (fun x7 => dI .i64 (ug r1 10) (fun x8 => dI .i64 (ug r1 11) (fun x9 => dI .i64 (ug r1 12) (fun x10 => Q (.t [.a [.i x2, .i x3, .i x4, .i x5, .i x6, .i x7, .i x8, .i x9, .i x10], .i 0]) [.c [.l 13 (ds.map eD), .i g]])))))))))) : Prop))) := by
  refine zvl hd hl ?_
  rw [zwh]
  by_cases h : 1 ≤ id ∧ id ≤ (ds.length : Int)
  · rw [decide_eq_true h]
    have hp : posD ds.length id = (id - 1).toNat := by unfold posD; omega
    obtain ⟨i, hi⟩ := z04 (show 0 ≤ id - 1 by omega)
    have hil : i < ds.length := by omega
    have hg := zy0 hil
    rw [hp, hi, zzm]
    simp only [z0c, cond_false]
    rw [zah (r := eD ds[i]) (by omega) (by simp [hil])]
    simp only [eD, ug0, ugs, zbs]
    exact k2 i _ hg (by omega)
  · rw [decide_eq_false h]
    exact k1 (by omega)
 refine S181 ?_
 exact ⟨⟨main, main⟩, main⟩
theorem zgh {F : Bool → List (List U) → Int → Prop} {x : Bool} {r : List (List U)} : post [.B] [.c [.l 13, .i .i64]] F (.u (.b x)) [.c [.l 13 r, .i n]] = F x r n := rfl
theorem putRows {R : List (List U)} {row : List U} {p : Nat} {b : Bool} (hp : p ≤ R.length) (hb : b = true → p < R.length) (hl : R.length ≤ 999999) {K : List (List U) → Prop} (hK : K (R.take p ++ [row] ++ R.drop (bif b then p + 1 else p))) :
 0 ≤ ((p : Nat) : Int) ∧ (((p : Nat) : Int) ≤ (zyv R : Int) ∧ (zyv R : Int) ≤ (zyv R : Int) ∧ (∀ k1 : List (List U) → Prop, (∀ l1 : List (List U), ((0 : Int) ≤ ((p : Nat) : Int) ∧ ((p : Nat) : Int) ≤ (zyv R : Int) ∧ ((p : Nat) : Int) = ((p : Nat) : Int) ∧ (zan (List.take (zyx ((p : Nat) : Int)) R) [row] ∧ (zan (List.take (zyx ((p : Nat) : Int)) R ++ [row]) l1 ∧ (K (List.take (zyx ((p : Nat) : Int)) R ++ [row] ++ l1))))) → k1 l1) → (bif b then 0 ≤ (1 : Int) ∧ ((1 : Int) ≤ (zyv (List.drop (zyx ((p : Nat) : Int)) (List.take (zyv R) R)) : Int) ∧ (zyv (List.drop (zyx ((p : Nat) : Int)) (List.take (zyv R) R)) : Int) ≤ (zyv (List.drop (zyx ((p : Nat) : Int)) (List.take (zyv R) R)) : Int) ∧ (k1 (List.drop 1 (List.take (zyv (List.drop (zyx ((p : Nat) : Int)) (List.take (zyv R) R))) (List.drop (zyx ((p : Nat) : Int)) (List.take (zyv R) R)))))) else k1 (List.drop (zyx ((p : Nat) : Int)) (List.take (zyv R) R))))) := by
 simp only [zzm, z0r]
 refine ⟨by omega, by omega, zzk _, fun k1 hk1 => ?_⟩
 have fin : ∀ l1 : List (List U), l1 = R.drop (bif b then p + 1 else p) → k1 l1 := fun l1 h => by
  subst h
  refine hk1 _ ⟨by omega, by omega, by first | trivial | rfl, ?_, ?_, hK⟩
  · unfold zan; simp; omega
  · unfold zan; cases b <;> simp <;> omega
 cases b with
 | true =>
   have := hb rfl
   refine ⟨by decide, by rw [z1j]; omega, zzk _, fin _ ?_⟩
   rw [z08]
   rfl
 | false => exact fin _ rfl
theorem put_D {ds : List Dr} {d : Dr} (hd : DNum ds) (hl : ds.length ≤ 100000) (hid : 1 ≤ d.id ∧ d.id ≤ (ds.length : Int) + 1) (k1 : d.id ≤ (ds.length : Int) → Q (.u (.b false)) [drB (ds.set (d.id - 1).toNat d) g]) (k2 : d.id = (ds.length : Int) + 1 → Q (.u (.b true)) [drB (ds ++ [d]) g]) :
 PRun Tryz.prog 82 [drB ds g] [.r 0 0, kV ⟨d.id, 0, 0, 0⟩, rV d] Q := by
 refine PRun.trim (PRun.frz 0 0 (S82 (zvl hd hl ?_)))
 rw [zwh]
 have hp : posD ds.length d.id = (d.id - 1).toNat := by unfold posD; omega
 rw [hp]
 refine putRows (R := ds.map eD) (row := eD d) (p := (d.id - 1).toNat) (b := decide (1 ≤ d.id ∧ d.id ≤ (ds.length : Int))) (K := fun R => Q (.u (.b (!decide (1 ≤ d.id ∧ d.id ≤ (ds.length : Int))))) [.c [.l 13 R, .i g]]) (by rw [zy2]; omega) (fun h => by have h := of_decide_eq_true h; rw [zy2]; omega) (by rw [zy2]; omega) ?_
 by_cases h : d.id ≤ (ds.length : Int)
 · rw [decide_eq_true (show 1 ≤ d.id ∧ d.id ≤ (ds.length : Int) from ⟨hid.1, h⟩)]
   have hlt : (d.id - 1).toNat < ds.length := by omega
   have := k1 h
   rw [List.set_eq_take_append_cons_drop, if_pos hlt] at this
   simp only [drB, zzr, zzj, z03, z1f] at this
   have e : List.take (d.id - 1).toNat (zzf eD ds) ++ [eD d] ++ List.drop ((d.id - 1).toNat + 1) (zzf eD ds) = List.take (d.id - 1).toNat (zzf eD ds) ++ eD d :: List.drop ((d.id - 1).toNat + 1) (zzf eD ds) := by simp
   rw [← e] at this
   exact this
 · have he : d.id = (ds.length : Int) + 1 := by omega
   rw [decide_eq_false (by omega)]
   have hn : (d.id - 1).toNat = ds.length := by omega
   rw [hn]
   have := k2 he
   simp only [drB, zzr, zzj, z1n] at this
   have e : List.take ds.length (zzf eD ds) ++ [eD d] ++ List.drop ds.length (zzf eD ds) = zzf eD ds ++ [eD d] := by
    rw [z0v (by simp), z0u (by simp), zzw]
   rw [← e] at this
   exact this
def isD (d : Dr) : Bool := (inJ d.own 0 1099511627776 && (inJ d.div 0 4 && inJ d.place 1 8)) && ((inJ d.blue 1 16 && (inJ d.me 0 10 && (inJ d.te 0 10 && inJ d.runs (-1) 1000))) && inJ d.busy 0 1099511627776)
theorem zf0 {d : Dr} (h : isD d = true) : (0 ≤ d.own ∧ d.own ≤ 1099511627776) ∧ (0 ≤ d.div ∧ d.div ≤ 4) ∧ (1 ≤ d.place ∧ d.place ≤ 8) ∧ (1 ≤ d.blue ∧ d.blue ≤ 16) ∧ (0 ≤ d.me ∧ d.me ≤ 10) ∧ (0 ≤ d.te ∧ d.te ≤ 10) ∧ (-1 ≤ d.runs ∧ d.runs ≤ 1000) ∧ (0 ≤ d.busy ∧ d.busy ≤ 1099511627776) := by
 unfold isD at h
 simp only [zyy, inJ_iff] at h
 exact ⟨h.1.1, h.1.2.1, h.1.2.2, h.2.1.1, h.2.1.2.1, h.2.1.2.2.1, h.2.1.2.2.2, h.2.2⟩
theorem is_D {d : Dr} (K : Q (.u (.b (isD d))) []) : PRun Tryz.prog 80 [] [rV d] Q := by
 refine S80 ?_
 generalize hk : (fun b => Q (.u (.b b)) []) = k
 have e : ∀ b, Q (.u (.b b)) [] = k b := fun b => by rw [← hk]
 rw [e] at K
 simp only [e]
 intro k1 hk1
 have c1 : k1 (inJ d.own 0 1099511627776 && (inJ d.div 0 4 && inJ d.place 1 8)) := by
  refine hk1 _ ?_
  intro k2 hk2
  have c2 : k2 (inJ d.blue 1 16 && (inJ d.me 0 10 && (inJ d.te 0 10 && inJ d.runs (-1) 1000))) := by
   refine hk2 _ ?_
   unfold isD at K
   refine kAn K fun h => kAn h fun h => ?_
   unfold inJ at h
   exact kAn h fun h => h
  unfold inJ at c2
  simp only [z2w] at c2
  exact kAn c2 fun h => kAn h fun h => kAn h fun h => kAn h fun h => kAn h fun h => kAn h fun h => kAn h fun h => h
 unfold inJ at c1
 simp only [z2w] at c1
 exact kAn c1 fun h => kAn h fun h => kAn h fun h => kAn h fun h => kAn h fun h => h
def zg9 (job runs : Int) : Bool := inJ job 1 1099511627776 && inJ runs 0 1000
theorem kAnN {k : Bool → Prop} {c r : Bool} {T : Prop} (h : k (!(c && r))) (hT : k (!r) → T) : bif c then T else k true := by
 cases c with
 | true => exact hT h
 | false => exact h
theorem zc8 {F : Int → Int → Int → Int → Int → Int → Int → Int → Int → Int → List (List U) → Int → Prop} {d : Dr} {e : Int} {r : List (List U)} : post [.agg [.i .i64, .i .i64, .i .i64, .i .i64, .i .i64, .i .i64, .i .i64, .i .i64, .i .i64], .I] [.c [.l 13, .i .i64]] F (.t [rV d, .i e]) [.c [.l 13 r, .i n]] = F d.id d.own d.div d.place d.blue d.me d.te d.runs d.busy e r n := rfl
def useE (d : Dr) (job runs : Int) : Int := if zg9 job runs = false then 1 else if d.busy ≠ 0 then 12 else if d.runs ≠ -1 ∧ d.runs < runs then 11 else 0
def zug (d : Dr) (job runs : Int) : Dr := { d with busy := job, runs := if d.runs ≠ -1 then d.runs - runs else d.runs }
def zt4 (d : Dr) (job runs : Int) : Int := if zg9 job runs = false then 1 else if d.busy ≠ job then 9 else if d.runs ≠ -1 ∧ d.runs + runs > 1000 then 11 else 0
def zom (d : Dr) (runs : Int) : Dr := { d with busy := 0, runs := if d.runs ≠ -1 then d.runs + runs else d.runs }
def zcp (d : Dr) (me te : Int) : Int := if me < 0 ∨ te < 0 then 1 else if me > 10 - d.me ∨ te > 10 - d.te then 11 else 0
def ze6 (d : Dr) (me te : Int) : Dr := { d with me := d.me + me, te := d.te + te }
section
variable {ds : List Dr} {g id : Int}
theorem uses_k {job runs : Int} {kk : Bool → Prop} (h : kk (!zg9 job runs)) : bif decide (job ≥ 1) then (bif decide (job ≤ 1099511627776) then (bif decide (runs ≥ 0) then kk (!(decide (runs ≤ 1000))) else kk true) else kk true) else kk true := by
 unfold zg9 inJ at h
 simp only [z2w] at h
 exact kAnN h fun h => kAnN h fun h => kAnN h fun h => h
theorem zns {i : Nat} {d d' : Dr} {k0 : Int} (hd : DNum ds) (hl : ds.length ≤ 100000) (hg : ds[i]? = some d) (hk : k0 = (i : Int) + 1) (he : d'.id = d.id) (k : Q (.u (.b false)) [drB (ds.set i d') g]) :
 PRun Tryz.prog 82 [drB ds g] [.r 0 0, kV ⟨k0, 0, 0, 0⟩, rV d'] Q := by
 have hlt := (zyz.1 hg).1
 have hid := hd i d hg
 have e1 : k0 = d'.id := by omega
 subst e1
 refine put_D hd hl (by omega) (fun _ => ?_) fun h => by omega
 rw [show (d'.id - 1).toNat = i by omega]
 exact k
theorem use_D {job runs : Int} (hd : DNum ds) (hl : ds.length ≤ 100000) (ho : ∀ d ∈ ds, isD d = true) (k1 : (id < 1 ∨ (ds.length : Int) < id) → Q (.i 3) [drB ds g])
 (k2 : ∀ (i : Nat) (d : Dr), ds[i]? = some d → id = (i : Int) + 1 → useE d job runs ≠ 0 → Q (.i (useE d job runs)) [drB ds g])
 (k3 : ∀ (i : Nat) (d : Dr), ds[i]? = some d → id = (i : Int) + 1 → useE d job runs = 0 → Q (.i 0) [drB (ds.set i (zug d job runs)) g]) : PRun Tryz.prog 90 [drB ds g] [.r 0 0, .i id, .i job, .i runs] Q := by
 refine S90 (zxw hd hl (fun h => ?_) fun i d hg hid => ?_)
 · rw [zc8]
   exact cNe (fun _ => k1 h) fun h => absurd h (by decide)
 rw [zc8]
 have k2 := k2 i d hg hid
 have k3 := k3 i d hg hid
 refine cNe (fun h => absurd rfl h) fun _ => ?_
 intro kk hkk
 refine uses_k (hkk _ ?_)
 unfold useE at k2 k3
 cases hu : zg9 job runs with
 | false =>
   rw [if_pos hu] at k2
   exact k2 (by decide)
 | true =>
   have hru : 0 ≤ runs ∧ runs ≤ 1000 := by
    unfold zg9 at hu
    simp only [zyy, inJ_iff] at hu
    exact hu.2
   have hdd := zf0 (ho d (zy4 hg))
   rw [if_neg (by rw [hu]; decide)] at k2 k3
   refine cNe (fun h => ?_) fun h => ?_
   · rw [if_pos h] at k2
     exact k2 (by decide)
   rw [if_neg (by omega)] at k2 k3
   rw [w64 (x := d.runs - runs) (by omega) (by omega)]
   refine cNe (fun h5 => cIf (fun h6 => ?_) fun h6 => cNe (fun _ => ?_) fun h => absurd h h5) fun h5 => cNe (fun h => absurd h5 h) fun _ => ?_
   · rw [if_pos ⟨h5, h6⟩] at k2
     exact k2 (by decide)
   · rw [if_neg (by omega)] at k3
     refine zns (d' := { d with busy := job, runs := d.runs - runs }) hd hl hg hid rfl ?_
     rw [zgh]
     have := k3 rfl
     unfold zug at this
     rw [if_pos h5] at this
     exact this
   · rw [if_neg (by omega)] at k3
     refine zns (d' := { d with busy := job }) hd hl hg hid rfl ?_
     rw [zgh]
     have := k3 rfl
     unfold zug at this
     rw [if_neg (by omega)] at this
     exact this
theorem free_D {job runs : Int} (hd : DNum ds) (hl : ds.length ≤ 100000) (ho : ∀ d ∈ ds, isD d = true) (k1 : (id < 1 ∨ (ds.length : Int) < id) → Q (.i 3) [drB ds g])
 (k2 : ∀ (i : Nat) (d : Dr), ds[i]? = some d → id = (i : Int) + 1 → zt4 d job runs ≠ 0 → Q (.i (zt4 d job runs)) [drB ds g])
 (k3 : ∀ (i : Nat) (d : Dr), ds[i]? = some d → id = (i : Int) + 1 → zt4 d job runs = 0 → Q (.i 0) [drB (ds.set i (zom d runs)) g]) : PRun Tryz.prog 97 [drB ds g] [.r 0 0, .i id, .i job, .i runs] Q := by
 refine S97 (zxw hd hl (fun h => ?_) fun i d hg hid => ?_)
 · rw [zc8]
   exact cNe (fun _ => k1 h) fun h => absurd h (by decide)
 rw [zc8]
 have k2 := k2 i d hg hid
 have k3 := k3 i d hg hid
 refine cNe (fun h => absurd rfl h) fun _ => ?_
 intro kk hkk
 refine uses_k (hkk _ ?_)
 unfold zt4 at k2 k3
 cases hu : zg9 job runs with
 | false =>
   rw [if_pos hu] at k2
   exact k2 (by decide)
 | true =>
   have hru : 0 ≤ runs ∧ runs ≤ 1000 := by
    unfold zg9 at hu
    simp only [zyy, inJ_iff] at hu
    exact hu.2
   have hdd := zf0 (ho d (zy4 hg))
   rw [if_neg (by rw [hu]; decide)] at k2 k3
   refine cNe (fun h => ?_) fun h => ?_
   · rw [if_pos h] at k2
     exact k2 (by decide)
   rw [if_neg (by omega)] at k2 k3
   rw [w64 (x := d.runs + runs) (by omega) (by omega)]
   refine cNe (fun h5 => cIf (fun h6 => ?_) fun h6 => cNe (fun _ => ?_) fun h => absurd h h5) fun h5 => cNe (fun h => absurd h5 h) fun _ => ?_
   · rw [if_pos ⟨h5, h6⟩] at k2
     exact k2 (by decide)
   · rw [if_neg (by omega)] at k3
     refine zns (d' := { d with busy := 0, runs := d.runs + runs }) hd hl hg hid rfl ?_
     rw [zgh]
     have := k3 rfl
     unfold zom at this
     rw [if_pos h5] at this
     exact this
   · rw [if_neg (by omega)] at k3
     refine zns (d' := { d with busy := 0 }) hd hl hg hid rfl ?_
     rw [zgh]
     have := k3 rfl
     unfold zom at this
     rw [if_neg (by omega)] at this
     exact this
theorem zw9 {me te : Int} (hd : DNum ds) (hl : ds.length ≤ 100000) (ho : ∀ d ∈ ds, isD d = true) (k1 : (id < 1 ∨ (ds.length : Int) < id) → Q (.i 3) [drB ds g])
 (k2 : ∀ (i : Nat) (d : Dr), ds[i]? = some d → id = (i : Int) + 1 → zcp d me te ≠ 0 → Q (.i (zcp d me te)) [drB ds g])
 (k3 : ∀ (i : Nat) (d : Dr), ds[i]? = some d → id = (i : Int) + 1 → zcp d me te = 0 → Q (.i 0) [drB (ds.set i (ze6 d me te)) g]) : PRun Tryz.prog 206 [drB ds g] [.r 0 0, .i id, .i me, .i te] Q := by
 refine S206 (zxw hd hl (fun h => ?_) fun i d hg hid => ?_)
 · rw [zc8]
   exact cNe (fun _ => k1 h) fun h => absurd h (by decide)
 rw [zc8]
 have k2 := k2 i d hg hid
 have k3 := k3 i d hg hid
 have hdd := zf0 (ho d (zy4 hg))
 unfold zcp at k2 k3
 rw [w64 (x := 10 - d.me) (by omega) (by omega), w64 (x := 10 - d.te) (by omega) (by omega)]
 refine cNe (fun h => absurd rfl h) fun _ => cIf (fun h => ?_) fun h1 => cIf (fun h => ?_) fun h2 => ?_
 · rw [if_pos (.inl h)] at k2; exact k2 (by decide)
 · rw [if_pos (.inr h)] at k2; exact k2 (by decide)
 rw [if_neg (by omega)] at k2 k3
 refine cIf (fun h => ?_) fun h3 => cIf (fun h => ?_) fun h4 => ?_
 · rw [if_pos (.inl h)] at k2; exact k2 (by decide)
 · rw [if_pos (.inr h)] at k2; exact k2 (by decide)
 rw [if_neg (by omega)] at k3
 rw [w64 (x := d.me + me) (by omega) (by omega), w64 (x := d.te + te) (by omega) (by omega)]
 refine zns (d' := ze6 d me te) hd hl hg hid rfl ?_
 rw [zgh]
 exact k3 rfl
def zvy (len g n : Int) : Prop := len + n ≤ 64 ∧ g + 1 ≤ 1099511627776 - n
theorem add_D {d : Dr} (hd : DNum ds) (hg : g = (ds.length : Int)) (hl : ds.length ≤ 100000) (k1 : isD d = false ∨ d.busy ≠ 0 → Q (.t [.i 0, .i 1]) [drB ds g]) (k2 : ¬ zvy ds.length g 1 → Q (.t [.i 0, .i 4]) [drB ds g])
 (k3 : isD d = true → d.busy = 0 → zvy ds.length g 1 → Q (.t [.i (g + 1), .i 0]) [drB (ds ++ [{ d with id := g + 1 }]) (g + 1)]) : PRun Tryz.prog 28 [drB ds g] [.r 0 0, rV d] Q := by
 refine S28 (is_D ?_)
 rw [zb7]
 cases hi : isD d with
 | false => exact k1 (.inl hi)
 | true =>
   rw [z0c, cond_false, zy2, w64 (x := (ds.length : Int) + 1) (by omega) (by omega), w64 (x := g + 1) (by omega) (by omega)]
   unfold zvy at k2 k3
   refine cNe (fun h => k1 (.inr h)) fun hb => cIf (fun h1 => ?_) fun h1 => k2 (by omega)
   cases h2 : decide (g + 1 ≤ 1099511627775) with
   | false => rw [decide_eq_false_iff_not] at h2; exact k2 (by omega)
   | true =>
     rw [decide_eq_true_eq] at h2
     rw [z0c, cond_false]
     refine put_D (d := { d with id := g + 1 }) (g := g + 1) hd hl (by simp only; omega) (fun h => by simp only at h; omega) fun _ => ?_
     rw [zgh]
     exact k3 hi hb ⟨by omega, by omega⟩
theorem DNum.app {d : Dr} (hd : DNum ds) (h : d.id = (ds.length : Int) + 1) : DNum (ds ++ [d]) := fun i x hx => by
 rcases z0o i ds.length with hi | hi
 · rw [zy7 hi] at hx
   exact hd i x hx
 · rw [zzn hi] at hx
   cases hk : i - ds.length with
   | zero => rw [hk] at hx; cases hx; omega
   | succ k => rw [hk] at hx; simp at hx
theorem DNum.set {i : Nat} {d d' : Dr} (hd : DNum ds) (hg : ds[i]? = some d) (h : d'.id = d.id) : DNum (ds.set i d') := fun j x hx => by
 rw [List.getElem?_set] at hx
 split at hx
 · rename_i e
   subst e
   split at hx
   · cases hx; rw [h]; exact hd _ d hg
   · cases hx
 · exact hd j x hx
def cpD (d : Dr) (runs : Int) (g : Int) : Nat → List Dr
 | 0 => []
 | n + 1 => cpD d runs g n ++ [{ d with id := g + n + 1, runs := runs, busy := 0 }]
theorem zmd (d : Dr) (runs g : Int) : ∀ n, (cpD d runs g n).length = n
 | 0 => rfl
 | n + 1 => by simp only [cpD, zzl, zmd d runs g n, zzg, z0z]
theorem zqt {d : Dr} {runs : Int} (hd : DNum ds) (hg : g = (ds.length : Int)) : ∀ n, DNum (ds ++ cpD d runs g n)
 | 0 => by simp only [cpD, zzw]; exact hd
 | n + 1 => by
   simp only [cpD]
   rw [← zy8]
   exact (zqt hd hg n).app (by simp only [zzl, zmd]; omega)
def zx6 (ds : List Dr) (g : Int) (d : Dr) (copies runs : Int) : Int := if inJ copies 1 10 = false ∨ inJ runs 1 1000 = false then 1 else if d.runs ≠ -1 then 9 else if ¬ (((ds.length : Int) + copies ≤ 64) ∧ g + 1 ≤ 1099511627776 - copies) then 4 else 0
theorem copies_D {copies runs : Int} (hd : DNum ds) (hgl : g = (ds.length : Int)) (hl : ds.length ≤ 100000) (ho : ∀ d ∈ ds, isD d = true) (k1 : (id < 1 ∨ (ds.length : Int) < id) → Q (.t [.l 1 [], .i 3]) [drB ds g])
 (k2 : ∀ (i : Nat) (d : Dr), ds[i]? = some d → id = (i : Int) + 1 → zx6 ds g d copies runs ≠ 0 → Q (.t [.l 1 [], .i (zx6 ds g d copies runs)]) [drB ds g])
 (k3 : ∀ (i : Nat) (d : Dr) (l : List (List U)), ds[i]? = some d → id = (i : Int) + 1 → zx6 ds g d copies runs = 0 → Q (.t [.l 1 l, .i 0]) [drB (ds ++ cpD d runs g copies.toNat) (g + copies)]) : PRun Tryz.prog 207 [drB ds g] [.r 0 0, .i id, .i copies, .i runs] Q := by
 refine S207 (zxw hd hl (fun h => ?_) fun i d hg hid => ?_)
 · rw [zc8]
   exact cNe (fun _ => k1 h) fun h => absurd h (by decide)
 rw [zc8]
 have k2 := k2 i d hg hid
 have k3 := fun l => k3 i d l hg hid
 have hdd := zf0 (ho d (zy4 hg))
 unfold zx6 at k2 k3
 refine cNe (fun h => absurd rfl h) fun _ => zmn (fun h => ?_) fun h1 => zmn (fun h => ?_) fun h2 => ?_
 · rw [if_pos (.inl h)] at k2; exact k2 (by decide)
 · rw [if_pos (.inr h)] at k2; exact k2 (by decide)
 have c1 := inJ_iff.1 h1
 have c2 := inJ_iff.1 h2
 rw [if_neg (by rw [h1, h2]; decide)] at k2 k3
 refine cNe (fun h => ?_) fun h3 => ?_
 · rw [if_pos h] at k2; exact k2 (by decide)
 rw [if_neg (by omega)] at k2 k3
 rw [zy2, w64 (x := (ds.length : Int) + copies) (by omega) (by omega), w64 (x := g + 1) (by omega) (by omega), w64 (x := 1099511627776 - copies) (by omega) (by omega)]
 refine cIf (fun h4 => ?_) fun h => ?_
 · cases h5 : decide (g + 1 ≤ 1099511627776 - copies) with
   | false =>
     rw [decide_eq_false_iff_not] at h5
     rw [if_pos (by omega)] at k2
     exact k2 (by decide)
   | true =>
     rw [decide_eq_true_eq] at h5
     rw [if_neg (by omega)] at k3
     rw [z0c, cond_false]
     refine ⟨fun o x r n => ∃ k : Nat, x = (k : Int) ∧ (k : Int) ≤ copies ∧ o.length = k ∧ r = (ds ++ cpD d runs g k).map eD ∧ n = g + k, fun _ x _ _ => (copies - x).toNat, ⟨0, rfl, by omega, rfl, by simp only [cpD, zzw], by omega⟩, ?_⟩
     rintro o _ _ _ ⟨k, rfl, hk, ho2, rfl, rfl⟩
     refine cIf (fun hlt => ?_) fun hge => ?_
     · have hlen : (ds ++ cpD d runs g k).length = ds.length + k := by rw [zzl, zmd]
       refine add_D (d := ⟨d.id, d.own, d.div, d.place, d.blue, d.me, d.te, runs, 0⟩) (zqt hd hgl k) (by rw [hlen]; omega) (by rw [hlen]; omega) (fun h => ?_) (fun h => ?_) fun _ _ _ => ?_
       · exfalso
         rcases h with h | h
         · have : isD ⟨d.id, d.own, d.div, d.place, d.blue, d.me, d.te, runs, 0⟩ = true := by
            unfold isD
            simp only [zyy, inJ_iff]
            omega
           rw [h] at this; cases this
         · exact h rfl
       · exfalso
         unfold zvy at h
         rw [hlen] at h
         omega
       · show post [.I, .I] [.c [.l 13, .i .i64]] _ (.t [.i _, .i 0]) [.c [.l 13 _, .i _]]
         show zan _ _ ∧ _
         have ek : zyu .i64 ((k : Int) + 1) = ((k + 1 : Nat) : Int) := by rw [w64 (by omega) (by omega)]; omega
         rw [ek]
         refine ⟨by unfold zan; simp; omega, ⟨k + 1, rfl, by omega, by simp [ho2], ?_, by omega⟩, by dsimp only; omega⟩
         simp only [cpD]
         rw [← zy8]
     · have e1 : copies.toNat = k := by omega
       have e2 : g + copies = g + k := by omega
       rw [e1, e2] at k3
       exact k3 o rfl
 · rw [if_pos (by omega)] at k2
   exact k2 (by decide)
end
end
section
open Go.Sort Go.Shelf
theorem PRun.run0 {g : FuncId} {args : List V} (hh : PRun P g [] args Q) (F : RpL (fun _ => none) [] vs args) (h : zaf) :
 Run P g vs h fun v h' => Keep h h' ∧ ∃ D ρ x m', Rp D ρ v x ∧ Q x m' := by
 have hS : St (fun _ => none) [(zzh h.size).pmap (fun i hi => (i, h[i]'(by simpa using hi))) (fun i hi => z1c.1 hi)] h := by
  refine ⟨?_, fun p hp => ?_, fun b o hb => by cases hb⟩
  · simp only [ids, zzd, z2h, zzw, List.map_pmap]
    have : (List.pmap (fun i (hi : i < h.size) => i) (zzh h.size) (fun i hi => z1c.1 hi)) = zzh h.size := by
     rw [List.pmap_eq_map, List.map_id']
    rw [this]; exact List.nodup_range
  · simp only [zzd, z2h, zzw, List.mem_pmap] at hp
    obtain ⟨i, hi, rfl⟩ := hp
    have := z1c.1 hi
    simp [this]
 refine (hh (fun _ => none) [] [] _ h vs ⟨rfl, rfl, fun i L ab ch h => by simp at h, by simpa using hS⟩ F).mono ?_
 rintro v h' ⟨D', ρ', chs', x, m', -, M, hv, hq⟩
 have key : ∀ i (hi : i < h.size), h'[i]? = some h[i] := fun i hi => by
  refine M.st.own (i, h[i]) ?_
  simp only [zzs, zy6, zzd, z2h, zzw, List.mem_pmap]
  exact .inr ⟨i, z1c.2 hi, rfl⟩
 refine ⟨⟨?_, fun b hb _ => by rw [key b hb]; simp [hb]⟩, D', _, x, m', hv, hq⟩
 rcases Nat.eq_zero_or_pos h.size with h0 | h0
 · omega
 · have := zbv (key (h.size - 1) (by omega))
   omega
theorem zpv : ∀ (l : List Int), RpC (fun _ => none) [] (l.map (Value.int .i64)) (l.map V.i)
 | [] => .nil
 | x :: l => .cons (.u (.int _ _)) (by simp) (zpv l)
theorem sortP {α : Type} [Inhabited α] {ρ0 : Go.Shelf.Ren} (L : SlLaysF0.n6 P ρ0) {f g : FuncId} (hf : ρ0.f 6 = f) (hc : zbh P f) (k : Nat) (aE : ∀ w, (isAgg (ρ0.t 24)).run P w = .ok true w) (zE : ∀ w, (Go.sizeOf (ρ0.t 24)).run P w = .ok k w)
 (en : α → List Int) (hk : ∀ x, (en x).length = k) (cf : α → α → Int) (hO : SWO (ltOf cf)) (hg : zbh P g) (hrun : ∀ x y, PRun P g [] [.a ((en x).map V.i), .a ((en y).map V.i)] fun v _ => v = .i (cf x y))
 {rows : List α} (hl : rows.length ≤ 1000000) (kk : ∀ r : List α, r.Perm rows → r.Pairwise (fun x y => cf y x < 0 → False) → Q (.t []) [.w E k (r.map fun x => (en x).map U.n)]) :
 PRun P f [.w E k (rows.map fun x => (en x).map U.n)] [.w 0, .f g [] []] Q := by
 intro D ρ chs C h vs M F
 cases F with
 | cons a1 F =>
 cases F with
 | cons a2 F =>
 cases F
 obtain ⟨L0, hL0, rfl⟩ := a1.w_inv
 obtain ⟨xs, ys, rfl, b1, b2⟩ := a2.f_inv
 cases b1; cases b2
 obtain ⟨L1, ch, g1, g2, g3⟩ := M.get (b := 0) (by simp [mg])
 rw [hL0] at g1; cases g1
 have hch : chs = [ch] := by
  have := M.lch
  match chs, this, g2 with
  | [c], _, g2 => simp at g2; rw [g2]
 subst hch
 have hρ : ρ = [L0] := by
  have := M.len
  match ρ, this, hL0 with
  | [c], _, g2 => simp at g2; rw [g2]
 subst hρ
 simp only [mg] at g3
 have S : St D (ch :: C) h := M.st
 cases g3 with
 | w own hn =>
   rw [zy2] at hn
   generalize hrr : rows.map (fun x => (en x).map U.n) = rr at own
   obtain ⟨Lb, La, Ln, Lc⟩ := L0
   simp only at own hn
   subst hn
   cases own with
   | nil =>
     have h0 : rows = [] := by simpa using hrr
     subst h0
     refine (znk L hf hc).mono ?_
     rintro v h' ⟨rfl, rfl⟩
     exact ⟨D, [], [[]], .t [], _, .refl D, M, .t .nil, kk [] (.refl _) .nil⟩
   | row b Lc arr rr v h1 h2 h3 h4 h5 =>
     have hb := S.get (zzx _)
     refine (sortRun L hf hc k aE zE (fun x => (en x).map (Value.int .i64)) (fun x => by simp [hk]) (fun x v hv => by simp at hv; obtain ⟨n, -, rfl⟩ := hv; rfl) cf hO g hg (fun x y h => ?_) (d := rows) (cap := Lc) hb (fun i x hx j v' hv' => ?_) (by omega) (by rw [← hrr] at h2; simpa using h2.1)).mono ?_
     · refine ((hrun x y).run0 (vs := [.agg ((en x).map (Value.int .i64)).toArray, .agg ((en y).map (Value.int .i64)).toArray]) (.cons (.a (zpv _)) (.cons (.a (zpv _)) .nil)) h).mono ?_
       rintro v h' ⟨hkp, D', ρ', x', m', hv, rfl⟩
       refine ⟨?_, hkp⟩
       cases hv with | u hv => cases hv; rfl
     · have hr : rr[i]? = some ((en x).map U.n) := by rw [← hrr, zy5, hx]; rfl
       rw [zy5] at hv'
       obtain ⟨n, hn, rfl⟩ := z0e.1 hv'
       have hu : ((en x).map U.n)[j]? = some (.n n) := by rw [zy5, hn]; rfl
       have := h5 i j _ _ hr hu
       rw [h4 i j _ _ hr hu, Rd.int_iff.1 this]
     · rintro w h' ⟨rfl, kb, r, hp, hs, hsl, l', hl', hsz'⟩
       have hlen := hp.length_eq
       have own' : Own D E k (some ⟨b, 0, none⟩) Lc (r.map fun x => (en x).map U.n) [(b, .cells l' E (0, 0))] := by
        refine .row b Lc l' _ (fun i j => match r[i]? with | some x => .int .i64 ((en x).getD j 0) | none => undef) (by rw [hsz']; exact h1) (by rw [← hrr] at h2; simp at h2 ⊢; omega) (fun q hq => by obtain ⟨x, -, rfl⟩ := zzu.1 hq; simp [hk]) (fun i j q u hi hj => ?_) (fun i j q u hi hj => ?_)
        · rw [zy5] at hi
          obtain ⟨x, hx, rfl⟩ := z0e.1 hi
          rw [zy5] at hj
          obtain ⟨n, hn, rfl⟩ := z0e.1 hj
          obtain ⟨b', o', e, hcell⟩ := hsl.2.2 i x hx
          cases e
          have := hcell j (.int .i64 n) (by rw [zy5, hn]; rfl)
          rw [zaz hl', zze] at this
          rw [this]
          simp only [hx, z07, hn, zz8]
        · rw [zy5] at hi
          obtain ⟨x, hx, rfl⟩ := z0e.1 hi
          rw [zy5] at hj
          obtain ⟨n, hn, rfl⟩ := z0e.1 hj
          simp only [hx, z07, hn, zz8]
          exact .int _ _
       have S' : St D ([(b, .cells l' E (0, 0))] :: C) h' := S.upd (by simpa using kb) (by simpa using hl') (by simp) (by simp)
       refine ⟨D, [], [[(b, .cells l' E (0, 0))]], .t [], _, .refl D, ⟨rfl, rfl, fun i L ab ch h1 h2 h3 => ?_, S'⟩, .t .nil, kk r hp hs⟩
       cases i with
       | zero =>
         simp at h1 h2 h3
         subst h1 h2 h3
         exact .w own' (by simp [hlen])
       | succ i => simp at h2
end
def insT (t : Tm) : List Tm → List Tm
 | [] => [t]
 | x :: l => if leT t x then t :: x :: l else x :: insT t l
def zfj : List Tm → List Tm
 | [] => []
 | t :: l => insT t (zfj l)
theorem zi0 (t : Tm) : ∀ l, (insT t l).Perm (t :: l)
 | [] => .refl _
 | x :: l => by
   unfold insT
   split
   · exact .refl _
   · exact ((zi0 t l).cons x).trans (.swap t x l)
theorem zap : ∀ l, (zfj l).Perm l
 | [] => .refl _
 | t :: l => (zi0 t _).trans ((zap l).cons t)
theorem zsi {t : Tm} : ∀ {l : List Tm}, l.Pairwise leT → (insT t l).Pairwise leT
 | [], _ => by simp [insT]
 | x :: l, h => by
   have h' := zz5.1 h
   unfold insT
   split
   · rename_i hl
     refine zz5.2 ⟨fun y hy => ?_, h⟩
     rcases zy3.1 hy with rfl | hy
     · exact hl
     · exact hl.trans (h'.1 y hy)
   · rename_i hl
     refine zz5.2 ⟨fun y hy => ?_, zsi h'.2⟩
     rcases zy3.1 ((zi0 t l).mem_iff.1 hy) with rfl | hy
     · exact leT.total hl
     · exact h'.1 y hy
theorem zb4 : ∀ l, (zfj l).Pairwise leT
 | [] => .nil
 | t :: l => zsi (zb4 l)
abbrev DifT (l : List Tm) : Prop := l.Pairwise fun a b => a.2.1 ≠ b.2.1
theorem DifT.eq {l : List Tm} (h : DifT l) {a b : Tm} (ha : a ∈ l) (hb : b ∈ l) (e : a.2.1 = b.2.1) : a = b := by
 induction l with
 | nil => simp at ha
 | cons x l ih =>
   obtain ⟨h1, h2⟩ := zz5.1 h
   rcases zy3.1 ha with ea | ha2 <;> rcases zy3.1 hb with eb | hb2
   · rw [ea, eb]
   · rw [ea] at e; exact absurd e (h1 b hb2)
   · rw [eb] at e; exact absurd e.symm (h1 a ha2)
   · exact ih h2 ha2 hb2
theorem DifT.perm {l m : List Tm} (p : l.Perm m) (h : DifT l) : DifT m := p.pairwise h fun h e => h e.symm
theorem zh6 {l m : List Tm} (p : l.Perm m) (h1 : l.Pairwise leT) (h2 : m.Pairwise leT) (hd : DifT l) : l = m :=
 List.Perm.eq_of_pairwise (fun a b ha hb x y => hd.eq ha (p.mem_iff.2 hb) (x.antisymm y).2) h1 h2 p
theorem zvd {l m : List Tm} (p : l.Perm m) (hd : DifT l) : zfj l = zfj m :=
 zh6 (((zap l).trans p).trans (zap m).symm) (zb4 l) (zb4 m) (DifT.perm (zap l).symm hd)
theorem srtT_id {l : List Tm} (h : l.Pairwise leT) (hd : DifT l) : zfj l = l := zh6 (zap l) (zb4 l) h (DifT.perm (zap l).symm hd)
theorem zpr {P : Tm → Bool} {l : List Tm} (hd : DifT l) : zfj (l.filter P) = (zfj l).filter P :=
 zh6 ((zap _).trans ((zap l).symm.filter P)) (zb4 _) ((zb4 l).sublist List.filter_sublist) (DifT.perm (zap _).symm (hd.sublist List.filter_sublist))
section
set_option maxRecDepth 100000
theorem mixTs : Tryz.prog.follows .mixedOrders = true := by kernel_rfl
theorem S11e {a : Int} (hh : Q (.t [(q16 0 0 0 0), .u (.b false)]) [.c [.nl 4, .nm]]) : PRun Tryz.prog 11 [.c [.nl 4, .nm]] [.r 0 0, .i a, .i b] Q :=
 zad mixTs Tryz.func11 (by kernel_rfl) (H := ⟨[], [], [], [], [], false, 64, KN.no, false, SP.no⟩) (n := 2) (by kernel_rfl) hh
theorem S11 {c : List (MK × List U)} {e : Int} (hh : mO (zbl c (.a [e, f])) (fun g => (dI .i64 (ug g 0) (fun d => 0 ≤ d ∧ d < (zyv a : Int) ∧ (elL a d (fun b => dI .i64 (ug b 0) (fun h => dI .i64 (ug b 1) (fun i => dI .i64 (ug b 2) (fun j => dI .i64 (ug b 3) (fun k => Q (.t [(q16 h i j k), .u (.b true)]) [.c [.w 1, .m 2], .w 43 4 a, .p (.a 2) 1 false c]))))))) : Prop)) (Q (.t [(q16 0 0 0 0), .u (.b false)]) [.c [.w 1, .m 2], .w 43 4 a, .p (.a 2) 1 false c])) : PRun Tryz.prog 11 [.c [.w 1, .m 2], .w 43 4 a, .p (.a 2) 1 false c] [.r 0 0, .i e, .i f] Q :=
 zad mixTs Tryz.func11 (by kernel_rfl) (H := ⟨[], [], [], [], [], false, 64, KN.no, false, SP.no⟩) (n := 2) (by kernel_rfl) hh
theorem S216 {g : List (MK × List U)} {c e : Int} (hh : ∀ j : Prop, ((mO (zbl g (.a [d, e])) (fun l => (dI .i64 (ug l 0) (fun i => 0 ≤ i ∧ i < (zyv a : Int) ∧ (elL a i (fun h => dI .i64 (ug h 0) (fun s => dI .i64 (ug h 1) (fun t => dI .i64 (ug h 2) (fun u => dI .i64 (ug h 3) (fun v => Q (.i 9) [.c [.w 1, .m 2], .w 43 4 a, .p (.a 2) 1 false g]))))))) : Prop)) (bif decide ((zyv a : Int) ≥ 128) then Q (.i 4) [.c [.w 1, .m 2], .w 43 4 a, .p (.a 2) 1 false g] else zan a [[.n c, .n d, .n e, .n f]] ∧ (Q (.i 0) [.c [.w 3, .m 2], .x, .p (.a 2) 1 false (za1 g (.a [d, e]) [.n (zyv a : Int)]), .w 43 4 (a ++ [[.n c, .n d, .n e, .n f]])]))) → j) → ∀ b : Bool → Prop, (∀ k : Bool, ((bif k then Q (.i 1) [.c [.w 1, .m 2], .w 43 4 a, .p (.a 2) 1 false g] else j)) → b k) → (bif decide (c < 0) then b true else (bif decide (c > 1099511627776) then b true else (bif decide (e < 1) then b true else (bif decide (e > 1099511627776) then b true else (bif d == 1 then (bif f == 4 then (bif (zyv a : Int) == 0 then b (decide (c < 0)) else 0 ≤ zyu .i64 ((zyv a : Int) - 1) ∧ zyu .i64 ((zyv a : Int) - 1) < (zyv a : Int) ∧ (elL a (zyu .i64 ((zyv a : Int) - 1)) (fun m => dI .i64 (ug m 0) (fun n => b (decide (c < n)))))) else (bif !(f == 6) then b true else (bif (zyv a : Int) == 0 then b (decide (c < 0)) else 0 ≤ zyu .i64 ((zyv a : Int) - 1) ∧ zyu .i64 ((zyv a : Int) - 1) < (zyv a : Int) ∧ (elL a (zyu .i64 ((zyv a : Int) - 1)) (fun o => dI .i64 (ug o 0) (fun p => b (decide (c < p)))))))) else (bif d == 2 then (bif decide (f ≥ 3) then (bif !(decide (f ≤ 7)) then b true else (bif (zyv a : Int) == 0 then b (decide (c < 0)) else 0 ≤ zyu .i64 ((zyv a : Int) - 1) ∧ zyu .i64 ((zyv a : Int) - 1) < (zyv a : Int) ∧ (elL a (zyu .i64 ((zyv a : Int) - 1)) (fun q => dI .i64 (ug q 0) (fun r => b (decide (c < r))))))) else b true) else b true))))))) : PRun Tryz.prog 216 [.c [.w 1, .m 2], .w 43 4 a, .p (.a 2) 1 false g] [.r 0 0, q16 c d e f] Q :=
 zad mixTs Tryz.func216 (by kernel_rfl) (H := ⟨[], [((216, 2, 4), ⟨[(20, .B)], []⟩), ((216, 3, 4), ⟨[], []⟩)], [11, 305, 306], [], [], false, 64, KN.no, false, SP.no⟩) (n := 3) (by kernel_rfl) hh
theorem S216e {a c : Int} (hh : bif decide (a < 0) then Q (.i 1) [.c [.nl 4, .nm]] else (bif decide (a > 1099511627776) then Q (.i 1) [.c [.nl 4, .nm]] else (bif decide (b < 1) then Q (.i 1) [.c [.nl 4, .nm]] else (bif decide (b > 1099511627776) then Q (.i 1) [.c [.nl 4, .nm]] else (bif c == 1 then (bif d == 4 then (bif decide (a < 0) then Q (.i 1) [.c [.nl 4, .nm]] else zan [] [[.n a, .n c, .n b, .n d]] ∧ (Q (.i 0) [.c [.w 1, .m 2], .w 43 4 [[.n a, .n c, .n b, .n d]], .p (.a 2) 1 false [((.a [c, b]), [.n 0])]])) else (bif !(d == 6) then Q (.i 1) [.c [.nl 4, .nm]] else (bif decide (a < 0) then Q (.i 1) [.c [.nl 4, .nm]] else zan [] [[.n a, .n c, .n b, .n d]] ∧ (Q (.i 0) [.c [.w 1, .m 2], .w 43 4 [[.n a, .n c, .n b, .n d]], .p (.a 2) 1 false [((.a [c, b]), [.n 0])]])))) else (bif c == 2 then (bif decide (d ≥ 3) then (bif !(decide (d ≤ 7)) then Q (.i 1) [.c [.nl 4, .nm]] else (bif decide (a < 0) then Q (.i 1) [.c [.nl 4, .nm]] else zan [] [[.n a, .n c, .n b, .n d]] ∧ (Q (.i 0) [.c [.w 1, .m 2], .w 43 4 [[.n a, .n c, .n b, .n d]], .p (.a 2) 1 false [((.a [c, b]), [.n 0])]]))) else Q (.i 1) [.c [.nl 4, .nm]]) else Q (.i 1) [.c [.nl 4, .nm]])))))) : PRun Tryz.prog 216 [.c [.nl 4, .nm]] [.r 0 0, q16 a c b d] Q :=
 zad mixTs Tryz.func216 (by kernel_rfl) (H := ⟨[], [], [11, 305, 306], [], [], false, 64, KN.no, false, SP.no⟩) (n := 3) (by kernel_rfl) hh
end
section
variable {Q : V → Mem → Prop}
abbrev Mk := Int × Int × Int × Int
abbrev rM (x : Mk) : List U := [.n x.1, .n x.2.1, .n x.2.2.1, .n x.2.2.2]
abbrev mV (x : Mk) : V := .a [.i x.1, .i x.2.1, .i x.2.2.1, .i x.2.2.2]
def isMk (x : Mk) : Prop := 0 ≤ x.1 ∧ x.1 ≤ 1099511627776 ∧ 1 ≤ x.2.2.1 ∧ x.2.2.1 ≤ 1099511627776 ∧ (x.2.1 = 1 ∧ (x.2.2.2 = 4 ∨ x.2.2.2 = 6) ∨ x.2.1 = 2 ∧ 3 ≤ x.2.2.2 ∧ x.2.2.2 ≤ 7)
instance (x : Mk) : Decidable (isMk x) := inferInstanceAs (Decidable (_ ∧ _))
def zcd (L : List Mk) : Int := match L.getLast? with | some x => x.1 | none => 0
def ofM (L : List Mk) (w i : Int) : Option Mk := L.find? fun x => x.2.1 == w && x.2.2.1 == i
def zf7 (L : List Mk) (x : Mk) : Int := if isMk x ∧ zcd L ≤ x.1 then (if (ofM L x.2.1 x.2.2.1).isSome then 9 else if 128 ≤ L.length then 4 else 0) else 1
def zml (L : List Mk) (x : Mk) : List Mk := if zf7 L x = 0 then L ++ [x] else L
structure LInv (L : List Mk) (m : List (MK × List U)) : Prop where
 pos : ∀ (i : Nat) (x : Mk), L[i]? = some x → zbl m (.a [x.2.1, x.2.2.1]) = some [.n (i : Int)]
 only : ∀ w i r, zbl m (.a [w, i]) = some r → ∃ x ∈ L, x.2.1 = w ∧ x.2.2.1 = i
def ze4 (L : List Mk) : Mem → Prop := fun M => (L = [] ∧ M = [.c [.nl 4, .nm]]) ∨ (L.length ≤ 128 ∧ ∃ m, LInv L m ∧ M = [.c [.w 1, .m 2], .w 43 4 (L.map rM), .p (.a 2) 1 false m])
theorem LInv.of {L : List Mk} (h : LInv L m) (w i : Int) : (ofM L w i = none ∧ zbl m (.a [w, i]) = none) ∨ ∃ (k : Nat) (x : Mk), ofM L w i = some x ∧ L[k]? = some x ∧ zbl m (.a [w, i]) = some [.n (k : Int)] := by
 cases hg : zbl m (.a [w, i]) with
 | none =>
   refine .inl ⟨z2d.2 fun x hx => ?_, rfl⟩
   intro hc
   simp only [zyy, beq_iff_eq] at hc
   obtain ⟨k, hk⟩ := zz4.1 hx
   have := h.pos k x hk
   rw [hc.1, hc.2, hg] at this
   cases this
 | some r =>
   obtain ⟨x, hx, h1, h2⟩ := h.only w i r hg
   have hs : (ofM L w i).isSome := List.find?_isSome.2 ⟨x, hx, by simp [h1, h2]⟩
   obtain ⟨y, hy⟩ := z2k.1 hs
   have hy1 := z2o hy
   simp only [zyy, beq_iff_eq] at hy1
   obtain ⟨k, hk⟩ := zz4.1 (z2n hy)
   have := h.pos k y hk
   rw [hy1.1, hy1.2, hg] at this
   exact .inr ⟨k, y, hy, hk, this⟩
theorem LInv.add {L : List Mk} (h : LInv L m) {x : Mk} (hx : ofM L x.2.1 x.2.2.1 = none) : LInv (L ++ [x]) (za1 m (.a [x.2.1, x.2.2.1]) [.n (L.length : Int)]) where
 pos i y hy := by
  rw [za5]
  by_cases hi : i < L.length
  · rw [zy7 hi] at hy
    rw [if_neg fun e => ?_]
    · exact h.pos i y hy
    · injection e with e
      have := z2d.1 hx y (zy4 hy)
      simp only [List.cons.injEq, and_true] at e
      simp [e.1, e.2] at this
  · have hl := (zyz.1 hy).1
    simp at hl
    have : i = L.length := by omega
    subst this
    simp at hy
    subst hy
    rw [if_pos rfl]
 only w i r hr := by
  rw [za5] at hr
  by_cases e : (MK.a [x.2.1, x.2.2.1]) = .a [w, i]
  · injection e with e
    simp only [List.cons.injEq, and_true] at e
    exact ⟨x, by simp, e.1, e.2⟩
  · rw [if_neg e] at hr
    obtain ⟨y, hy, h1⟩ := h.only w i r hr
    exact ⟨y, by simp [hy], h1⟩
def noMk : V := .a [.i 0, .i 0, .i 0, .i 0]
def ofR (L : List Mk) (w i : Int) : V := match ofM L w i with | some x => .t [mV x, .u (.b true)] | none => .t [noMk, .u (.b false)]
theorem of_S {L : List Mk} {w : Int} (K : Q (ofR L w i) [.o (Ob.of (ze4 L))]) : PRun Tryz.prog 11 [.o (Ob.of (ze4 L))] [.r 0 0, .i w, .i i] Q := by
 refine PRun.pack (args := [.i w, .i i]) rfl ?_
 rintro M (⟨rfl, rfl⟩ | ⟨hl, m, hm, rfl⟩)
 · refine S11e ⟨rfl, _, ze4 [], .refl _, .inl ⟨rfl, rfl⟩, ?_⟩
   exact K
 · refine S11 ?_
   rcases hm.of w i with ⟨h1, h2⟩ | ⟨k, x, h1, hk, h2⟩
   · rw [h2]
     refine ⟨rfl, _, ze4 L, .refl _, .inr ⟨hl, m, hm, rfl⟩, ?_⟩
     unfold ofR at K; rw [h1] at K; exact K
   · rw [h2]
     have hkl := (zyz.1 hk).1
     simp only [mO, ug0, zbs]
     refine ⟨by omega, by rw [zy2]; omega, ?_⟩
     rw [zah (r := rM x) (by omega) (by simp [hk])]
     simp only [rM, ug0, ugs, zbs]
     refine ⟨rfl, _, ze4 L, .refl _, .inr ⟨hl, m, hm, rfl⟩, ?_⟩
     unfold ofR at K; rw [h1] at K; exact K
end
section
variable {Q : V → Mem → Prop}
theorem addM_S {L : List Mk} {x : Mk} (K : Q (.i (zf7 L x)) [.o (Ob.of (ze4 (zml L x)))]) : PRun Tryz.prog 216 [.o (Ob.of (ze4 L))] [.r 0 0, mV x] Q := by
 refine PRun.pack (args := [mV x]) rfl ?_
 have k1 : ¬ (isMk x ∧ zcd L ≤ x.1) → Q (.i 1) [.o (Ob.of (ze4 L))] := fun h => by
  have e : zf7 L x = 1 := if_neg h
  have e2 : zml L x = L := if_neg (by rw [e]; decide)
  rw [e, e2] at K; exact K
 rintro M (⟨rfl, rfl⟩ | ⟨hl, m, hm, rfl⟩)
 · have bad : ¬ (isMk x ∧ zcd [] ≤ x.1) → (zae (V.i 1) = [] ∧ ∃ (m2 : Mem) (S' : Mem → Prop), Nrm [.c [.nl 4, .nm]] m2 ∧ S' m2 ∧ Q (.i 1) [.o (Ob.of S')]) := fun h =>
    ⟨rfl, _, ze4 [], .refl _, .inl ⟨rfl, rfl⟩, k1 h⟩
   have tail : isMk x → (bif decide (x.1 < 0) then (zae (V.i 1) = [] ∧ ∃ (m2 : Mem) (S' : Mem → Prop), Nrm [.c [.nl 4, .nm]] m2 ∧ S' m2 ∧ Q (.i 1) [.o (Ob.of S')]) else
    zan [] [rM x] ∧ (zae (V.i 0) = [] ∧ ∃ (m2 : Mem) (S' : Mem → Prop), Nrm [.c [.w 1, .m 2], .w 43 4 [rM x], .p (.a 2) 1 false [((.a [x.2.1, x.2.2.1]), [.n 0])]] m2 ∧ S' m2 ∧ Q (.i 0) [.o (Ob.of S')])) := fun h => by
    have h0 : zcd [] ≤ x.1 := h.1
    refine cIf (fun h2 => absurd h.1 (by omega)) fun h2 => ⟨by unfold zan; simp, rfl, _, ze4 [x], .refl _, .inr ⟨by simp, _, LInv.add (L := []) (m := []) ⟨fun i y hy => by simp at hy, fun w i r hr => by simp [zbl] at hr⟩ rfl, rfl⟩, ?_⟩
    have e : zf7 [] x = 0 := by unfold zf7; rw [if_pos ⟨h, h0⟩]; rfl
    have e2 : zml [] x = [x] := if_pos e
    rw [e, e2] at K; exact K
   refine S216e ?_
   unfold isMk at bad tail
   refine cIf (fun h => bad (by omega)) fun h1 => cIf (fun h => bad (by omega)) fun h2 => cIf (fun h => bad (by omega)) fun h3 => cIf (fun h => bad (by omega)) fun h4 => cEq (fun h5 => cEq (fun h6 => tail (by omega)) fun h6 => zhp (cEq (fun h7 => tail (by omega)) fun h7 => bad (by omega))) fun h5 =>
    cEq (fun h6 => cIf (fun h7 => zhp (cIf (fun h8 => tail (by omega)) fun h8 => bad (by omega))) fun h7 => bad (by omega)) fun h6 => bad (by omega)
 · have fin : ∀ {e : Int} {L' : List Mk} {m2 : Mem}, Nrm m2 m2 → e = zf7 L x → L' = zml L x → ze4 L' m2 → (zae (V.i e) = [] ∧ ∃ (m3 : Mem) (S' : Mem → Prop), Nrm m2 m3 ∧ S' m3 ∧ Q (.i e) [.o (Ob.of S')]) := fun h1 h2 h3 h4 =>
    ⟨rfl, _, _, h1, h4, by rw [h2, h3]; exact K⟩
   have same : ze4 L [.c [.w 1, .m 2], .w 43 4 (L.map rM), .p (.a 2) 1 false m] := .inr ⟨hl, m, hm, rfl⟩
   have eN : zf7 L x ≠ 0 → zml L x = L := fun h => if_neg h
   refine S216 ?_
   intro k1' hk1 k2 hk2
   have bad : ¬ (isMk x ∧ zcd L ≤ x.1) → k2 true := fun h => hk2 true ⟨rfl, _, ze4 L, .refl _, same, k1 h⟩
   have zt3 : (isMk x ∧ zcd L ≤ x.1) → k2 false := fun h => hk2 false (hk1 (by
    rcases hm.of x.2.1 x.2.2.1 with ⟨q1, q2⟩ | ⟨k, y, q1, hk, q2⟩
    · rw [q2]
      simp only [mO]
      refine cIf (fun h8 => ?_) fun h8 => ?_
      · rw [zy2] at h8
        have e : zf7 L x = 4 := by unfold zf7; rw [if_pos h, q1, if_neg (by simp), if_pos (by omega)]
        exact fin (.refl _) e.symm (eN (by rw [e]; decide)).symm same
      · rw [zy2] at h8
        have e : zf7 L x = 0 := by unfold zf7; rw [if_pos h, q1, if_neg (by simp), if_neg (by omega)]
        have e2 : zml L x = L ++ [x] := if_pos e
        refine ⟨by unfold zan; simp; omega, rfl, _, ze4 (L ++ [x]), Nrm.four (l := [.w 3, .m 2]) (by simp [za9, zag, zae]) (by simp [za9]) (by simp [za9]), .inr ⟨by simp; omega, _, hm.add q1, ?_⟩, by rw [e, e2] at K; exact K⟩
        simp [zo2, zd0, zci, f4]
    · rw [q2]
      have hkl := (zyz.1 hk).1
      simp only [mO, ug0, zbs]
      refine ⟨by omega, by rw [zy2]; omega, ?_⟩
      rw [zah (r := rM y) (by omega) (by simp [hk])]
      simp only [rM, ug0, ugs, zbs]
      have e : zf7 L x = 9 := by unfold zf7; rw [if_pos h, q1]; rfl
      exact fin (.refl _) e.symm (eN (by rw [e]; decide)).symm same))
   have tail : isMk x → (bif (zyv (L.map rM) : Int) == 0 then k2 (decide (x.1 < 0)) else 0 ≤ zyu .i64 ((zyv (L.map rM) : Int) - 1) ∧ zyu .i64 ((zyv (L.map rM) : Int) - 1) < (zyv (L.map rM) : Int) ∧ (elL (L.map rM) (zyu .i64 ((zyv (L.map rM) : Int) - 1)) (fun r3 => dI .i64 (ug r3 0) (fun x6 => k2 (decide (x.1 < x6)))))) := fun h => by
    have pick : k2 (decide (x.1 < zcd L)) := by
     by_cases h2 : x.1 < zcd L
     · rw [decide_eq_true h2]; exact bad (by omega)
     · rw [decide_eq_false h2]; exact zt3 ⟨h, by omega⟩
    rw [zy2]
    refine cEq (fun h0 => ?_) fun h0 => ?_
    · have : L = [] := List.length_eq_zero_iff.1 (by omega)
      subst this; exact pick
    · obtain ⟨n, hn⟩ : ∃ n, L.length = n + 1 := ⟨L.length - 1, by omega⟩
      have ew : zyu .i64 ((L.length : Int) - 1) = (n : Nat) := by rw [hn, w64 (by omega) (by omega)]; omega
      obtain ⟨y, hy⟩ : ∃ y, L[n]? = some y := ⟨L[n]'(by omega), zy0 (by omega)⟩
      have el : zcd L = y.1 := by unfold zcd; rw [List.getLast?_eq_getElem?, hn, Nat.add_sub_cancel, hy]
      rw [ew]
      refine ⟨by omega, by omega, ?_⟩
      rw [zah (r := rM y) (by omega) (by simp [hy])]
      simp only [rM, ug0, zbs]
      rw [el] at pick; exact pick
   unfold isMk at bad tail
   refine cIf (fun h => bad (by omega)) fun h1 => cIf (fun h => bad (by omega)) fun h2 => cIf (fun h => bad (by omega)) fun h3 => cIf (fun h => bad (by omega)) fun h4 => cEq (fun h5 => cEq (fun h6 => tail (by omega)) fun h6 => zhp (cEq (fun h7 => tail (by omega)) fun h7 => bad (by omega))) fun h5 =>
    cEq (fun h6 => cIf (fun h7 => zhp (cIf (fun h8 => tail (by omega)) fun h8 => bad (by omega))) fun h7 => bad (by omega)) fun h6 => bad (by omega)
end
section
set_option maxRecDepth 100000
theorem mixTh1 : Tryz.prog.follows .mixedOrders = true := by kernel_rfl
theorem S93 {s : List (List U)} (hh : bif List.isEmpty s then ((Q (.l 2 []) [] : Prop) ∧ (zan [] s ∧ (match s with | _ :: _ => (Q (.l 2 ([] ++ s)) []) | [] => (Q (.c 2 []) []) : Prop) : Prop)) else (zan [] s ∧ (match s with | _ :: _ => (Q (.l 2 ([] ++ s)) []) | [] => (Q (.c 2 []) []) : Prop) : Prop)) : PRun Tryz.prog 93 [] [.l 2 s] Q :=
 zad mixTh1 Tryz.func93 (by kernel_rfl) (H := ⟨[], [], [], [], [], false, 64, KN.no, false, SP.no⟩) (n := 2) (by kernel_rfl) hh
end
section
set_option maxRecDepth 100000
theorem zit : Tryz.prog.follows .mixedOrders = true := by kernel_rfl
theorem S200 {k l m o ξ : Int} {g i n p s : List (List U)} {q : List Int} {e r u : Ob} (hh : 0 ≤ zyu .i64 (b - 1) ∧ zyu .i64 (b - 1) < (zyv c : Int) ∧ (elL c (zyu .i64 (b - 1)) (fun a => dI .i64 (ug a 0) (fun v => dI .i64 (ug a 1) (fun w => dI .i64 (ug a 2) (fun x => dI .i64 (ug a 3) (fun y => dI .i64 (ug a 4) (fun α => dI .i64 (ug a 5) (fun β => dI .i64 (ug a 6) (fun γ => dI .i64 (ug a 7) (fun δ => dI .i64 (ug a 8) (fun ε => dI .i64 (ug a 9) (fun ζ => dI .i64 (ug a 10) (fun η => dL 2 (ug a 11) (fun θ => dI .i64 (ug a 12) (fun ι => dI .i64 (ug a 13) (fun κ => dI .i64 (ug a 14) (fun μ => dI .i64 (ug a 15) (fun ν => PRun Tryz.prog 294 [] [(q17 v w x y α β γ δ ε ζ η θ ι κ μ ν), .i ξ] (post q2 [] (fun ο π ρ σ τ υ φ χ ψ ω a0 a1 a2 a3 d a4 a5 => (bif a5 == 0 then PRun Tryz.prog 295 [.o e] [.r 0 0, .i d, .i (zyu .i64 (2 * b))] (post q10 [.A] (fun a7 a8 a6 => (Q (.t []) (q14 f g h i j k l m n o p q a6 r s t u (zzb c (zyx (zyu .i64 (b - 1))) (q27 ο π ρ σ τ υ φ χ ψ ω a0 a1 a2 a3 d a4))) : Prop))) else Q (.t []) (q14 f g h i j k l m n o p q e r s t u c) : Prop)))))))))))))))))))))) : PRun Tryz.prog 200 (q14 f g h i j k l m n o p q e r s t u c) [.r 0 0, .i b, .i ξ] Q :=
 zad zit Tryz.func200 (by kernel_rfl) (H := ⟨[], [], [34], [], [], false, 64, KN.no, false, SP.no⟩) (n := 3) (by kernel_rfl) hh
theorem S210 {k l m u γ : Int} {h j t w : List (List U)} {r : List Int} {x s v : Ob} (hh : PRun Tryz.prog 44 [.o x] [.r 0 0] (post [.L 3] [.A] (fun e y => ∃ (c : Int → Ob → Prop) (f : Int → Ob → Nat), c 0 y ∧ (∀ a : Int, ∀ b : Ob, c a b → (bif decide (a < (zyv e : Int)) then elL e a (fun d => dI .i64 (ug d 0) (fun ε => dI .i64 (ug d 1) (fun α => dI .i64 (ug d 2) (fun β => (bif β == zyu .i64 (2 * γ) then PRun Tryz.prog 300 [.o b] [.r 0 0, .i α] (post q7 [.A] (fun ζ δ => (Q (.t []) (q14 g h i j k l m n o p q r δ s t u v w) : Prop))) else c (zyu .i64 (a + 1)) b ∧ f (zyu .i64 (a + 1)) b < f a b))))) else Q (.t []) (q14 g h i j k l m n o p q r b s t u v w)))))) : PRun Tryz.prog 210 (q14 g h i j k l m n o p q r x s t u v w) [.r 0 0, .i γ] Q :=
 zad zit Tryz.func210 (by kernel_rfl) (H := ⟨[((210, 1, 8), ⟨[(12, .I)], [(3, .A)]⟩)], [], [34], [], [], false, 64, KN.no, false, SP.no⟩) (n := 3) (by kernel_rfl) hh
theorem S102 {w y β γ δ ε η ξ τ : Int} {x α ζ θ ν π : List (List U)} {ι : List Int} {κ μ ο : Ob} (hh : PRun Tryz.prog 210 (q14 w x y α β γ δ ε ζ η θ ι κ μ ν ξ ο π) [.r 0 0, .i d] (post [] q1 (fun e f g h i j k l b m n o p q r s t ρ => (PRun Tryz.prog 211 [.o ρ] [.r 0 0, .i d] (post q10 [.A] (fun c σ u => ∀ a : Bool → Prop, (∀ v : Bool, ((bif v then PRun Tryz.prog 200 (q14 e f g h i j k l m n o p q r s t u b) [.r 0 0, .i c, .i τ] (post [] q1 (fun υ φ χ ψ ω a0 a1 a2 a3 a4 a5 a6 a7 a8 a9 b0 b1 b2 => (Q (.t []) (q18 υ φ χ ψ ω a0 a1 a2 a4 a5 a6 a7 a8 a9 b0 b1 b2 a3) : Prop))) else Q (.t []) (q18 e f g h i j k l m n o p q r s t u b))) → a v) → (bif σ == 0 then (bif decide (c > 0) then a (decide (c ≤ (zyv b : Int))) else a false) else a false))) : Prop)))) : PRun Tryz.prog 102 (q14 w x y α β γ δ ε ζ η θ ι κ μ ν ξ ο π) [.r 0 0, .i d, .i τ] Q :=
 zad zit Tryz.func102 (by kernel_rfl) (H := ⟨[], [((102, 3, 9), ⟨[(34, .B)], []⟩)], [], [], [], false, 64, KN.no, false, SP.no⟩) (n := 2) (by kernel_rfl) hh
theorem S92 {c e l r a φ χ ψ w ω a0 a1 a2 a3 a5 a6 a7 a8 y : Int} {d f k m s a4 : List (List U)} {n : List Int} {o p v : Ob} (hh : PRun Tryz.prog 106 [] [.i t] (post q7 [] (fun u => (PRun Tryz.prog 199 [.o v] [.r 0 0, .i w, .i u, .i a] (post [.B, .I] [.A] (fun x υ b => (bif x then PRun Tryz.prog 200 (q14 c d e f g h i j k l m n o p q r b s) [.r 0 0, .i a, .i y] (post [] q1 (fun α β γ δ ε ζ η θ ι κ μ ν ξ ο π ρ σ τ => (Q (.t []) (q18 α β γ δ ε ζ η θ κ μ ν ξ ο π ρ σ τ ι) : Prop))) else Q (.t []) (q14 c d e f g h i j k l m n o p q r b s) : Prop))) : Prop)))) : PRun Tryz.prog 92 (q14 c d e f g h i j k l m n o p q r v s) [.r 0 0, q17 a t φ χ ψ w ω a0 a1 a2 a3 a4 a5 a6 a7 a8, .i y] Q :=
 zad zit Tryz.func92 (by kernel_rfl) (H := ⟨[], [], [], [], [], false, 64, KN.no, false, SP.no⟩) (n := 2) (by kernel_rfl) hh
theorem S110 {e k l a w x y α β γ δ ε ζ c θ ι κ : Int} {f h m s b η : List (List U)} {p : List Int} {q r u : Ob} (hh : 0 ≤ zyu .i64 (a - 1) ∧ zyu .i64 (a - 1) < (zyv b : Int) ∧ (PRun Tryz.prog 102 (q14 e f g h i j k l m n o p q r s t u (zzb b (zyx (zyu .i64 (a - 1))) (q27 a v w x y α β γ δ ε ζ η c θ ι κ))) [.r 0 0, .i a, .i d] (post [] q1 (fun μ ν ξ ο π ρ σ τ υ φ χ ψ ω a0 a1 a2 a3 a4 => (PRun Tryz.prog 216 [.o a1] [.r 0 0, q16 d 1 a c] (post q7 [.A] (fun a6 a5 => (Q (.t []) (q18 μ ν ξ ο π ρ σ τ φ χ ψ ω a0 a5 a2 a3 a4 υ) : Prop))) : Prop))))) : PRun Tryz.prog 110 (q14 e f g h i j k l m n o p q r s t u b) [.r 0 0, q17 a v w x y α β γ δ ε ζ η c θ ι κ, .i d] Q :=
 zad zit Tryz.func110 (by kernel_rfl) (H := ⟨[], [], [], [], [], false, 64, KN.no, false, SP.no⟩) (n := 2) (by kernel_rfl) hh
theorem S30 {k m s c : Int} {g l n r b : List (List U)} {o : List Int} {p q t : Ob} (hh : bif decide (c < 1) then Q (.t [(q17 0 0 0 0 0 0 0 0 0 0 0 [] 0 0 0 0), .i 3]) (q14 d e f g h i j k l m n o p q r s t b) else (bif decide (c > (zyv b : Int)) then Q (.t [(q17 0 0 0 0 0 0 0 0 0 0 0 [] 0 0 0 0), .i 3]) (q14 d e f g h i j k l m n o p q r s t b) else 0 ≤ zyu .i64 (c - 1) ∧ zyu .i64 (c - 1) < (zyv b : Int) ∧ (elL b (zyu .i64 (c - 1)) (fun a => dI .i64 (ug a 0) (fun u => dI .i64 (ug a 1) (fun v => dI .i64 (ug a 2) (fun w => dI .i64 (ug a 3) (fun x => dI .i64 (ug a 4) (fun y => dI .i64 (ug a 5) (fun α => dI .i64 (ug a 6) (fun β => dI .i64 (ug a 7) (fun γ => dI .i64 (ug a 8) (fun δ => dI .i64 (ug a 9) (fun ε => dI .i64 (ug a 10) (fun ζ => dL 2 (ug a 11) (fun η => dI .i64 (ug a 12) (fun θ => dI .i64 (ug a 13) (fun ι => dI .i64 (ug a 14) (fun κ => dI .i64 (ug a 15) (fun μ => PRun Tryz.prog 93 [] [.l 2 η] (post [.L 2] [] (fun ν => (Q (.t [(q17 u v w x y α β γ δ ε ζ ν θ ι κ μ), .i 0]) (q14 d e f g h i j k l m n o p q r s t b) : Prop))))))))))))))))))))))) : PRun Tryz.prog 30 (q14 d e f g h i j k l m n o p q r s t b) [.r 0 0, .i c] Q :=
 zad zit Tryz.func30 (by kernel_rfl) (H := ⟨[], [], [41], [], [], false, 64, KN.no, false, SP.no⟩) (n := 3) (by kernel_rfl) hh
theorem S10 {a9 b1 b3 b4 b5 b6 b8 c4 : Int} {b0 b2 b7 b9 c3 ο : List (List U)} {c0 : List Int} {c1 c2 c5 : Ob} (hh : ∃ (u : List (List U) → Int → Int → List (List U) → Int → List (List U) → Int → Int → Int → Int → List (List U) → List (List U) → Int → List (List U) → List Int → Ob → Ob → List (List U) → Int → Ob → Prop) (ξ : List (List U) → Int → Int → List (List U) → Int → List (List U) → Int → Int → Int → Int → List (List U) → List (List U) → Int → List (List U) → List Int → Ob → Ob → List (List U) → Int → Ob → Nat), u [] 0 a9 b0 b1 b2 b3 b4 b5 b6 ο b7 b8 b9 c0 c1 c2 c3 c4 c5 ∧ (∀ a : List (List U), ∀ b c : Int, ∀ d : List (List U), ∀ e : Int, ∀ f : List (List U), ∀ g h i j : Int, ∀ k l : List (List U), ∀ m : Int, ∀ n : List (List U), ∀ o : List Int, ∀ p q : Ob, ∀ r : List (List U), ∀ s : Int, ∀ t : Ob, u a b c d e f g h i j k l m n o p q r s t → (bif decide (b < (zyv ο : Int)) then PRun Tryz.prog 30 (q14 c d e f g h i j l m n o p q r s t k) [.r 0 0, .i (zyu .i64 (b + 1))] (post q2 q1 (fun v w x y α β γ δ ε ζ η θ ι κ μ ν c6 π ρ σ τ υ φ χ ψ ω a0 a1 a2 a3 a4 a5 a6 a7 a8 => (zan a [(q27 v w x y α β γ δ ε ζ η θ ι κ μ ν)] ∧ (u (a ++ [(q27 v w x y α β γ δ ε ζ η θ ι κ μ ν)]) (zyu .i64 (b + 1)) π ρ σ τ υ φ χ ψ ω a0 a1 a2 a3 a4 a5 a6 a7 a8 ∧ ξ (a ++ [(q27 v w x y α β γ δ ε ζ η θ ι κ μ ν)]) (zyu .i64 (b + 1)) π ρ σ τ υ φ χ ψ ω a0 a1 a2 a3 a4 a5 a6 a7 a8 < ξ a b c d e f g h i j k l m n o p q r s t) : Prop))) else Q (.l 16 a) (q18 c d e f g h i j l m n o p q r s t k)))) : PRun Tryz.prog 10 (q14 a9 b0 b1 b2 b3 b4 b5 b6 b7 b8 b9 c0 c1 c2 c3 c4 c5 ο) [.r 0 0] Q :=
 zad zit Tryz.func10 (by kernel_rfl) (H := ⟨[((10, 5, 8), ⟨[(3, .one (.ow 48 16)), (15, .I)], [(0, .c [.i .i64, .l 7, .i .i64, .l 4, .i .i64, .i .i64, .i .i64, .i .i64, .r 1 0, .r 2 0, .r 3 0, .r 4 0, .r 5 0, .r 6 0, .ow 48 16]), (1, .c [.l 5, .i .i64]), (2, .c [.l 5, .n 33]), (3, .A), (4, .A), (5, .c [.l 13, .i .i64]), (6, .A)]⟩)], [], [41], [], [], false, 64, KN.no, false, SP.no⟩) (n := 3) (by kernel_rfl) hh
end
section
set_option maxRecDepth 100000
theorem zwz : Tryz.prog.follows .mixedOrders = true := by kernel_rfl
theorem S84 {b8 b6 e1 m k l a o b9 c0 c1 c2 c3 c4 c5 c6 c7 c8 c9 d0 d1 d2 d3 d4 d6 d7 d8 w x y α β γ δ ε ζ η θ κ μ ν ξ d9 : Int} {b7 p b5 u d5 ι : List (List U)} {q : List Int} {r s t : Ob} (hh : ∀ e0 : Prop, ((PRun Tryz.prog 180 [] [(q24 b c d e f g h i), .i k] (post q8 [] (fun ο υ φ χ e2 => (PRun Tryz.prog 181 [.c [.l 13 b5, .i b6]] [.r 0 0, .i l] (post q5 q4 (fun ψ π ρ σ τ ω a0 a1 a2 e3 a3 a4 => (PRun Tryz.prog 182 [] [(q24 b c d e f g h i), .i τ] (post q11 [] (fun a5 a6 a7 a8 a9 b0 b1 e4 => (PRun Tryz.prog 172 [.c [.l 5 b7, .i b8]] [.r 0 0, .i j] (post q10 q9 (fun b2 e5 b3 b4 => (bif e2 != 0 then Q (.i 3) (q21 b c d e f g h i b3 b4 p q r s a3 a4 t u j m n k l a v o ο υ φ χ ψ π ρ σ τ ω a0 a1 a2 a5 a6 a7 a8 a9 b0 b1 w x y α β γ δ ε ζ η θ ι κ μ ν ξ b2) else (bif e3 != 0 then Q (.i 3) (q21 b c d e f g h i b3 b4 p q r s a3 a4 t u j m n k l a v o ο υ φ χ ψ π ρ σ τ ω a0 a1 a2 a5 a6 a7 a8 a9 b0 b1 w x y α β γ δ ε ζ η θ ι κ μ ν ξ b2) else (bif e4 != 0 then Q (.i 3) (q21 b c d e f g h i b3 b4 p q r s a3 a4 t u j m n k l a v o ο υ φ χ ψ π ρ σ τ ω a0 a1 a2 a5 a6 a7 a8 a9 b0 b1 w x y α β γ δ ε ζ η θ ι κ μ ν ξ b2) else (bif e5 != 0 then Q (.i 3) (q21 b c d e f g h i b3 b4 p q r s a3 a4 t u j m n k l a v o ο υ φ χ ψ π ρ σ τ ω a0 a1 a2 a5 a6 a7 a8 a9 b0 b1 w x y α β γ δ ε ζ η θ ι κ μ ν ξ b2) else (bif decide (j < 1) then Q (.i 3) (q21 b c d e f g h i b3 b4 p q r s a3 a4 t u j m n k l a v o ο υ φ χ ψ π ρ σ τ ω a0 a1 a2 a5 a6 a7 a8 a9 b0 b1 w x y α β γ δ ε ζ η θ ι κ μ ν ξ b2) else (bif π != m then Q (.i 8) (q21 b c d e f g h i b3 b4 p q r s a3 a4 t u j m n k l a v o ο υ φ χ ψ π ρ σ τ ω a0 a1 a2 a5 a6 a7 a8 a9 b0 b1 w x y α β γ δ ε ζ η θ ι κ μ ν ξ b2) else (bif ρ != n then Q (.i 8) (q21 b c d e f g h i b3 b4 p q r s a3 a4 t u j m n k l a v o ο υ φ χ ψ π ρ σ τ ω a0 a1 a2 a5 a6 a7 a8 a9 b0 b1 w x y α β γ δ ε ζ η θ ι κ μ ν ξ b2) else (bif σ != ο then Q (.i 9) (q21 b c d e f g h i b3 b4 p q r s a3 a4 t u j m n k l a v o ο υ φ χ ψ π ρ σ τ ω a0 a1 a2 a5 a6 a7 a8 a9 b0 b1 w x y α β γ δ ε ζ η θ ι κ μ ν ξ b2) else Q (.i 0) (q21 b c d e f g h i b3 b4 p q r s a3 a4 t u j m n k l a v o ο υ φ χ ψ π ρ σ τ ω a0 a1 a2 a5 a6 a7 a8 a9 b0 b1 w x y α β γ δ ε ζ η θ ι κ μ ν ξ b2)))))))) : Prop))) : Prop))) : Prop))) : Prop)))) → e0) → (bif decide (e1 ≥ 0) then (bif !(decide (e1 ≤ 1099511627776)) then Q (.i 1) (q21 b c d e f g h i b7 b8 p q r s b5 b6 t u j m n k l a v o b9 c0 c1 c2 c3 c4 c5 c6 c7 c8 c9 d0 d1 d2 d3 d4 d5 d6 d7 d8 w x y α β γ δ ε ζ η θ ι κ μ ν ξ d9) else (bif decide (a < 1) then Q (.i 1) (q21 b c d e f g h i b7 b8 p q r s b5 b6 t u j m n k l a v o b9 c0 c1 c2 c3 c4 c5 c6 c7 c8 c9 d0 d1 d2 d3 d4 d5 d6 d7 d8 w x y α β γ δ ε ζ η θ ι κ μ ν ξ d9) else (bif decide (a > 4) then Q (.i 1) (q21 b c d e f g h i b7 b8 p q r s b5 b6 t u j m n k l a v o b9 c0 c1 c2 c3 c4 c5 c6 c7 c8 c9 d0 d1 d2 d3 d4 d5 d6 d7 d8 w x y α β γ δ ε ζ η θ ι κ μ ν ξ d9) else (bif a != 4 then (bif o != 0 then Q (.i 1) (q21 b c d e f g h i b7 b8 p q r s b5 b6 t u j m n k l a v o b9 c0 c1 c2 c3 c4 c5 c6 c7 c8 c9 d0 d1 d2 d3 d4 d5 d6 d7 d8 w x y α β γ δ ε ζ η θ ι κ μ ν ξ d9) else e0) else e0)))) else Q (.i 1) (q21 b c d e f g h i b7 b8 p q r s b5 b6 t u j m n k l a v o b9 c0 c1 c2 c3 c4 c5 c6 c7 c8 c9 d0 d1 d2 d3 d4 d5 d6 d7 d8 w x y α β γ δ ε ζ η θ ι κ μ ν ξ d9))) : PRun Tryz.prog 84 (q21 b c d e f g h i b7 b8 p q r s b5 b6 t u j m n k l a v o b9 c0 c1 c2 c3 c4 c5 c6 c7 c8 c9 d0 d1 d2 d3 d4 d5 d6 d7 d8 w x y α β γ δ ε ζ η θ ι κ μ ν ξ d9) [.r 0 0, .i e1, .r 8 0] Q :=
 zad zwz Tryz.func84 (by kernel_rfl) (H := ⟨[], [((84, 3, 9), ⟨[], []⟩)], [104], [], [], false, 64, KN.no, false, SP.no⟩) (n := 3) (by kernel_rfl) hh
theorem S85 {l m o q w x y e α β γ δ ε ζ η θ ι κ μ ν ξ ο π c ρ σ τ φ χ ψ ω a0 a1 a2 a3 a4 a5 a6 a7 a8 a9 b1 b2 b3 b4 b5 : Int} {i k p r v υ b0 : List (List U)} {s : List Int} {t u c1 : Ob} (hh : ∃ (b9 : Int → Int → Prop) (b8 : Int → Int → Nat), b9 0 0 ∧ (∀ b6 d : Int, b9 b6 d → (bif decide (d < (zyv a : Int)) then 0 ≤ d ∧ d < (zyv a : Int) ∧ (elL a d (fun b => dI .i64 (ug b 0) (fun c6 => dI .i64 (ug b 1) (fun c7 => dI .i64 (ug b 2) (fun c8 => dI .i64 (ug b 3) (fun c9 => dI .i64 (ug b 4) (fun c3 => dI .i64 (ug b 5) (fun d0 => dI .i64 (ug b 6) (fun d1 => dI .i64 (ug b 7) (fun d2 => dI .i64 (ug b 8) (fun d3 => dI .i64 (ug b 9) (fun d4 => dI .i64 (ug b 10) (fun d5 => dL 2 (ug b 11) (fun d6 => dI .i64 (ug b 12) (fun d7 => dI .i64 (ug b 13) (fun d8 => dI .i64 (ug b 14) (fun d9 => dI .i64 (ug b 15) (fun e0 => (bif c3 == f then PRun Tryz.prog 183 [] [(q17 c6 c7 c8 c9 c3 d0 d1 d2 d3 d4 d5 d6 d7 d8 d9 e0)] (post [.B] [] (fun e1 => (bif e1 then b9 (zyu .i64 (b6 + 1)) (zyu .i64 (d + 1)) ∧ b8 (zyu .i64 (b6 + 1)) (zyu .i64 (d + 1)) < b8 b6 d else b9 b6 (zyu .i64 (d + 1)) ∧ b8 b6 (zyu .i64 (d + 1)) < b8 b6 d : Prop))) else b9 b6 (zyu .i64 (d + 1)) ∧ b8 b6 (zyu .i64 (d + 1)) < b8 b6 d))))))))))))))))))) else (bif decide ((zyv a : Int) ≥ 64) then Q (.i 4) (q21 h i j k l m n o p q r s t u v w c1 a f x y e α g β γ δ ε ζ η θ ι κ μ ν ξ ο π c ρ σ τ υ φ χ ψ ω a0 a1 a2 a3 a4 a5 a6 a7 a8 a9 b0 b1 b2 b3 b4 b5) else (bif decide (b6 ≥ 6) then Q (.i 10) (q21 h i j k l m n o p q r s t u v w c1 a f x y e α g β γ δ ε ζ η θ ι κ μ ν ξ ο π c ρ σ τ υ φ χ ψ ω a0 a1 a2 a3 a4 a5 a6 a7 a8 a9 b0 b1 b2 b3 b4 b5) else PRun Tryz.prog 106 [] [.i g] (post q7 [] (fun c4 => (PRun Tryz.prog 213 [.o c1] [.r 0 0, .i e, .i c4] (post q10 [.A] (fun e2 c2 b7 => (bif c2 != 0 then (bif !(c2 == 0) then Q (.i 10) (q21 h i j k l m n o p q r s t u v w b7 a f x y e α g β γ δ ε ζ η θ ι κ μ ν ξ ο π c ρ σ τ υ φ χ ψ ω a0 a1 a2 a3 a4 a5 a6 a7 a8 a9 b0 b1 b2 b3 b4 b5) else (bif c != 0 then Q (.i 12) (q21 h i j k l m n o p q r s t u v w b7 a f x y e α g β γ δ ε ζ η θ ι κ μ ν ξ ο π c ρ σ τ υ φ χ ψ ω a0 a1 a2 a3 a4 a5 a6 a7 a8 a9 b0 b1 b2 b3 b4 b5) else Q (.i 0) (q21 h i j k l m n o p q r s t u v w b7 a f x y e α g β γ δ ε ζ η θ ι κ μ ν ξ ο π c ρ σ τ υ φ χ ψ ω a0 a1 a2 a3 a4 a5 a6 a7 a8 a9 b0 b1 b2 b3 b4 b5))) else (bif decide (e2 > 0) then (bif !(c2 == 0) then Q (.i 10) (q21 h i j k l m n o p q r s t u v w b7 a f x y e α g β γ δ ε ζ η θ ι κ μ ν ξ ο π c ρ σ τ υ φ χ ψ ω a0 a1 a2 a3 a4 a5 a6 a7 a8 a9 b0 b1 b2 b3 b4 b5) else (bif c != 0 then Q (.i 12) (q21 h i j k l m n o p q r s t u v w b7 a f x y e α g β γ δ ε ζ η θ ι κ μ ν ξ ο π c ρ σ τ υ φ χ ψ ω a0 a1 a2 a3 a4 a5 a6 a7 a8 a9 b0 b1 b2 b3 b4 b5) else Q (.i 0) (q21 h i j k l m n o p q r s t u v w b7 a f x y e α g β γ δ ε ζ η θ ι κ μ ν ξ ο π c ρ σ τ υ φ χ ψ ω a0 a1 a2 a3 a4 a5 a6 a7 a8 a9 b0 b1 b2 b3 b4 b5))) else PRun Tryz.prog 73 [.o b7] [.r 0 0] (post [.L 2] [.A] (fun e3 c0 => (elL e3 (zyu .i64 (zyu .i64 (2 * zyu .i64 (e - 1)) + c4)) (fun c5 => dL 1 (ug c5 0) (fun e4 => dL 1 (ug c5 1) (fun e5 => (bif decide ((zyv e4 : Int) > 0) then (bif !(decide ((zyv e5 : Int) < 8)) then Q (.i 10) (q21 h i j k l m n o p q r s t u v w c0 a f x y e α g β γ δ ε ζ η θ ι κ μ ν ξ ο π c ρ σ τ υ φ χ ψ ω a0 a1 a2 a3 a4 a5 a6 a7 a8 a9 b0 b1 b2 b3 b4 b5) else (bif c != 0 then Q (.i 12) (q21 h i j k l m n o p q r s t u v w c0 a f x y e α g β γ δ ε ζ η θ ι κ μ ν ξ ο π c ρ σ τ υ φ χ ψ ω a0 a1 a2 a3 a4 a5 a6 a7 a8 a9 b0 b1 b2 b3 b4 b5) else Q (.i 0) (q21 h i j k l m n o p q r s t u v w c0 a f x y e α g β γ δ ε ζ η θ ι κ μ ν ξ ο π c ρ σ τ υ φ χ ψ ω a0 a1 a2 a3 a4 a5 a6 a7 a8 a9 b0 b1 b2 b3 b4 b5))) else Q (.i 10) (q21 h i j k l m n o p q r s t u v w c0 a f x y e α g β γ δ ε ζ η θ ι κ μ ν ξ ο π c ρ σ τ υ φ χ ψ ω a0 a1 a2 a3 a4 a5 a6 a7 a8 a9 b0 b1 b2 b3 b4 b5))))) : Prop)))) : Prop))) : Prop)))))))) : PRun Tryz.prog 85 (q21 h i j k l m n o p q r s t u v w c1 a f x y e α g β γ δ ε ζ η θ ι κ μ ν ξ ο π c ρ σ τ υ φ χ ψ ω a0 a1 a2 a3 a4 a5 a6 a7 a8 a9 b0 b1 b2 b3 b4 b5) [.r 0 0, .r 8 0] Q :=
 zad zwz Tryz.func85 (by kernel_rfl) (H := ⟨[((85, 3, 9), ⟨[(5, .I), (13, .I)], []⟩)], [], [105], [], [], false, 64, KN.no, false, SP.no⟩) (n := 3) (by kernel_rfl) hh
theorem S86 {o q r a m s u w x y α β k l γ c e δ ε ζ η θ ι κ μ ν ψ ξ ο π ρ σ τ : Int} {f υ : List (List U)} (hh : ∀ χ : Prop, ((∀ ω : Int → Int → Int → Int → Int → Int → Int → Int → Int → Int → Int → Int → Int → Int → Int → Int → Int → Int → Int → Int → Int → Int → Int → Int → Int → List (List U) → Int → Int → Int → Int → Int → Int → Int → Int → Int → Int → Int → Int → Int → Int → List (List U) → Int → Int → Int → Int → Int → Prop, (∀ e2 a1 a2 a3 a4 a5 a6 a7 a8 a9 b0 b1 a0 b2 b3 b4 b5 b6 b7 b8 b9 c0 c1 c2 c3 : Int, ∀ c4 : List (List U), ∀ c5 c6 c7 c8 c9 d0 d1 d2 d3 d4 d5 d6 φ e3 : Int, ∀ d7 : List (List U), ∀ d8 d9 e0 e4 e1 : Int, ((bif e2 != 0 then Q (.i 11) (q28 a1 a2 a3 a4 a5 a6 a7 a8 a9 b0 b1 a0 b2 b3 b4 b5 b6 b7 b8 b9 c0 c1 c2 c3 c4 c5 c6 c7 c8 c9 d0 d1 d2 d3 d4 d5 d6 φ e3 d7 d8 d9 e0 e4 e1) else PRun Tryz.prog 188 [] [.i a0, .i (if φ > 1 then φ else 1)] (post q10 [] (fun e7 e8 => (Q (.i e8) (q28 a1 a2 a3 a4 a5 a6 a7 a8 a9 b0 b1 a0 b2 b3 b4 b5 b6 b7 b8 b9 c0 c1 c2 c3 c4 c5 c6 c7 c8 c9 d0 d1 d2 d3 d4 d5 d6 (if φ > 1 then φ else 1) e7 d7 d8 d9 e0 (if φ > 1 then φ else 1) e1) : Prop))))) → ω e2 a1 a2 a3 a4 a5 a6 a7 a8 a9 b0 b1 a0 b2 b3 b4 b5 b6 b7 b8 b9 c0 c1 c2 c3 c4 c5 c6 c7 c8 c9 d0 d1 d2 d3 d4 d5 d6 φ e3 d7 d8 d9 e0 e4 e1) → (bif b == 1 then PRun Tryz.prog 184 [] [(q22 c d e f g h i), .i k, .i a] (post [.L 2, .I] [] (fun e5 e6 => (bif e6 != 0 then Q (.i e6) (q28 n o p q r b a m s t u v w x y α β k l j γ c d e f g h i δ ε ζ η θ ι κ μ ν ψ ξ e5 ο π ρ σ τ) else PRun Tryz.prog 185 [] [(q22 c d e f g h i), .i l, .i a] (post q10 [] (fun e9 f0 => (ω f0 n o p q r b a m s t u v w x y α β k l j γ c d e f g h i δ ε ζ η θ ι κ μ ν e9 ξ e5 ο π ρ σ τ : Prop))) : Prop))) else (bif b == 2 then PRun Tryz.prog 186 [] [(q22 c d e f g h i), .i k, .i a] (post q10 [] (fun f1 f2 => (ω f2 n o p q r b a m s t u v w x y α β k l j γ c d e f g h i δ ε ζ η θ ι κ μ ν f1 ξ υ ο π ρ σ τ : Prop))) else (bif b == 3 then PRun Tryz.prog 186 [] [(q22 c d e f g h i), .i l, .i a] (post q10 [] (fun f3 f4 => (ω f4 n o p q r b a m s t u v w x y α β k l j γ c d e f g h i δ ε ζ η θ ι κ μ ν f3 ξ υ ο π ρ σ τ : Prop))) else (bif b == 4 then PRun Tryz.prog 187 [] [(q22 c d e f g h i), .i m, .i a] (post q10 [] (fun f5 f6 => (ω f6 n o p q r b a m s t u v w x y α β k l j γ c d e f g h i δ ε ζ η θ ι κ μ ν f5 ξ υ ο π ρ σ τ : Prop))) else ω 0 n o p q r b a m s t u v w x y α β k l j γ c d e f g h i δ ε ζ η θ ι κ μ ν ψ ξ υ ο π ρ σ τ))))) → χ) → (bif decide (a < 1) then Q (.i 11) (q28 n o p q r b a m s t u v w x y α β k l j γ c d e f g h i δ ε ζ η θ ι κ μ ν ψ ξ υ ο π ρ σ τ) else (bif decide (a > 1000) then Q (.i 11) (q28 n o p q r b a m s t u v w x y α β k l j γ c d e f g h i δ ε ζ η θ ι κ μ ν ψ ξ υ ο π ρ σ τ) else (bif b != 1 then (bif !(j == -1) then Q (.i 11) (q28 n o p q r b a m s t u v w x y α β k l j γ c d e f g h i δ ε ζ η θ ι κ μ ν ψ ξ υ ο π ρ σ τ) else (bif b == 1 then (bif !(j == -1) then (bif decide (j < a) then Q (.i 11) (q28 n o p q r b a m s t u v w x y α β k l j γ c d e f g h i δ ε ζ η θ ι κ μ ν ψ ξ υ ο π ρ σ τ) else χ) else χ) else χ)) else (bif b == 1 then (bif !(j == -1) then (bif decide (j < a) then Q (.i 11) (q28 n o p q r b a m s t u v w x y α β k l j γ c d e f g h i δ ε ζ η θ ι κ μ ν ψ ξ υ ο π ρ σ τ) else χ) else χ) else χ))))) : PRun Tryz.prog 86 (q28 n o p q r b a m s t u v w x y α β k l j γ c d e f g h i δ ε ζ η θ ι κ μ ν ψ ξ υ ο π ρ σ τ) [.r 0 0] Q :=
 zad zwz Tryz.func86 (by kernel_rfl) (H := ⟨[], [((86, 8, 1), ⟨[], []⟩), ((86, 21, 1), ⟨[(4, .I)], [(0, .c [.i .i64, .i .i64, .i .i64, .i .i64, .i .i64, .i .i64, .i .i64, .i .i64, .i .i64, .i .i64, .i .i64, .i .i64, .i .i64, .i .i64, .i .i64, .i .i64, .i .i64, .i .i64, .i .i64, .i .i64, .i .i64, .i .i64, .i .i64, .i .i64, .l 2, .i .i64, .i .i64, .i .i64, .i .i64, .i .i64, .i .i64, .i .i64, .i .i64, .i .i64, .i .i64, .i .i64, .i .i64, .i .i64, .i .i64, .l 2, .i .i64, .i .i64, .i .i64, .i .i64, .i .i64])]⟩)], [], [], [], false, 64, KN.no, false, SP.no⟩) (n := 2) (by kernel_rfl) hh
end
section
set_option maxRecDepth 100000
theorem zkg : Tryz.prog.follows .mixedOrders = true := by kernel_rfl
theorem S35 {w y β γ δ ε η ξ u a : Int} {x α ζ θ ν π : List (List U)} {ι : List Int} {κ μ ο : Ob} (hh : PRun Tryz.prog 30 (q14 w x y α β γ δ ε ζ η θ ι κ μ ν ξ ο π) [.r 0 0, .i a] (post q2 q1 (fun ρ σ τ υ φ χ ψ ω a0 a1 a2 a3 a4 a5 a6 a7 c d e f g h i j k b l m n o p q r s t => (bif c != 0 then (bif c == 0 then 0 ≤ zyu .i64 (a - 1) ∧ zyu .i64 (a - 1) < (zyv b : Int) ∧ (PRun Tryz.prog 102 (q14 d e f g h i j k l m n o p q r s t (zzb b (zyx (zyu .i64 (a - 1))) (q27 0 0 0 0 0 0 0 0 0 0 0 [] 0 0 0 0))) [.r 0 0, .i a, .i u] (post [] q1 (fun a8 a9 b0 b1 b2 b3 b4 b5 b6 b7 b8 b9 c0 c1 c2 c3 c4 c5 => (Q (.i c) (q18 a8 a9 b0 b1 b2 b3 b4 b5 b7 b8 b9 c0 c1 c2 c3 c4 c5 b6) : Prop)))) else Q (.i c) (q18 d e f g h i j k l m n o p q r s t b)) else PRun Tryz.prog 101 [] [(q17 ρ σ τ υ φ χ ψ ω a0 a1 a2 a3 a4 a5 a6 a7), .i u] (post q2 [] (fun c6 c7 c8 c9 d0 d1 d2 d3 d4 d5 d6 d7 d8 d9 e0 e1 v => (bif v == 0 then 0 ≤ zyu .i64 (a - 1) ∧ zyu .i64 (a - 1) < (zyv b : Int) ∧ (PRun Tryz.prog 102 (q14 d e f g h i j k l m n o p q r s t (zzb b (zyx (zyu .i64 (a - 1))) (q27 c6 c7 c8 c9 d0 d1 d2 d3 d4 d5 d6 d7 d8 d9 e0 e1))) [.r 0 0, .i a, .i u] (post [] q1 (fun e2 e3 e4 e5 e6 e7 e8 e9 f0 f1 f2 f3 f4 f5 f6 f7 f8 f9 => (Q (.i v) (q18 e2 e3 e4 e5 e6 e7 e8 e9 f1 f2 f3 f4 f5 f6 f7 f8 f9 f0) : Prop)))) else Q (.i v) (q18 d e f g h i j k l m n o p q r s t b) : Prop))) : Prop)))) : PRun Tryz.prog 35 (q14 w x y α β γ δ ε ζ η θ ι κ μ ν ξ ο π) [.r 0 0, .i u, .i a] Q :=
 zad zkg Tryz.func35 (by kernel_rfl) (H := ⟨[], [], [94, 100], [], [], false, 64, KN.no, false, SP.no⟩) (n := 4) (by kernel_rfl) hh
theorem S36 {a8 b0 b2 b3 b4 b5 b7 c3 r : Int} {a9 b1 b6 b8 c2 c5 : List (List U)} {b9 : List Int} {c0 c1 c4 : Ob} (hh : PRun Tryz.prog 30 (q14 a8 a9 b0 b1 b2 b3 b4 b5 b6 b7 b8 b9 c0 c1 c2 c3 c4 c5) [.r 0 0, .i r] (post q2 q1 (fun c6 c7 c8 c9 d0 d1 d2 d3 d4 d5 d6 d7 d8 d9 e0 e1 α b c d e f g h i a j k l m n o p q s => (bif α != 0 then ∀ w : Ob → Prop, (∀ ι : Ob, (0 ≤ zyu .i64 (r - 1) ∧ zyu .i64 (r - 1) < (zyv a : Int) ∧ (PRun Tryz.prog 92 (q14 b c d e f g h i j k l m n o p q ι (zzb a (zyx (zyu .i64 (r - 1))) (q27 0 0 0 0 0 0 0 0 0 0 0 [] 0 0 0 0))) [.r 0 0, q17 0 0 0 0 0 0 0 0 0 0 0 [] 0 0 0 0, .i t] (post [] q1 (fun e2 e3 e4 e5 e6 e7 e8 e9 f0 f1 f2 f3 f4 f5 f6 f7 f8 f9 => (Q (.i 0) (q18 e2 e3 e4 e5 e6 e7 e8 e9 f1 f2 f3 f4 f5 f6 f7 f8 f9 f0) : Prop))))) → w ι) → (bif α != 0 then Q (.i α) (q18 b c d e f g h i j k l m n o p q s a) else ∀ β : Bool → Prop, (∀ κ : Bool, ((bif κ then Q (.i 1) (q18 b c d e f g h i j k l m n o p q s a) else PRun Tryz.prog 106 [] [.i 0] (post q7 [] (fun μ => (PRun Tryz.prog 213 [.o s] [.r 0 0, .i 0, .i μ] (post q10 [.A] (fun g0 γ u => (bif γ != 0 then (bif !(γ == 0) then Q (.i 10) (q18 b c d e f g h i j k l m n o p q u a) else w u) else (bif decide (g0 > 0) then (bif !(γ == 0) then Q (.i 10) (q18 b c d e f g h i j k l m n o p q u a) else w u) else PRun Tryz.prog 73 [.o u] [.r 0 0] (post [.L 2] [.A] (fun g1 δ => (elL g1 (zyu .i64 (-2 + μ)) (fun ν => dL 1 (ug ν 0) (fun g2 => dL 1 (ug ν 1) (fun g3 => (bif decide ((zyv g2 : Int) > 0) then (bif !(decide ((zyv g3 : Int) < 8)) then Q (.i 10) (q18 b c d e f g h i j k l m n o p q δ a) else w δ) else Q (.i 10) (q18 b c d e f g h i j k l m n o p q δ a))))) : Prop)))) : Prop))) : Prop))))) → β κ) → (bif decide (t ≥ 0) then β (!(decide (t ≤ 1099511627776))) else β true)) else PRun Tryz.prog 103 [] [(q17 c6 c7 c8 c9 d0 d1 d2 d3 d4 d5 d6 d7 d8 d9 e0 e1)] (post q2 [] (fun ξ ε ο π ρ x σ τ υ φ χ ψ ω a0 a1 a2 a3 => ∀ y : Ob → Prop, (∀ a4 : Ob, (0 ≤ zyu .i64 (r - 1) ∧ zyu .i64 (r - 1) < (zyv a : Int) ∧ (PRun Tryz.prog 92 (q14 b c d e f g h i j k l m n o p q a4 (zzb a (zyx (zyu .i64 (r - 1))) (q27 ξ ε ο π ρ x σ τ υ φ χ ψ ω a0 a1 a2))) [.r 0 0, q17 ξ ε ο π ρ x σ τ υ φ χ ψ ω a0 a1 a2, .i t] (post [] q1 (fun g4 g5 g6 g7 g8 g9 h0 h1 h2 h3 h4 h5 h6 h7 h8 h9 i0 i1 => (Q (.i 0) (q18 g4 g5 g6 g7 g8 g9 h0 h1 h3 h4 h5 h6 h7 h8 h9 i0 i1 h2) : Prop))))) → y a4) → (bif a3 != 0 then Q (.i a3) (q18 b c d e f g h i j k l m n o p q s a) else ∀ ζ : Bool → Prop, (∀ a5 : Bool, ((bif a5 then Q (.i 1) (q18 b c d e f g h i j k l m n o p q s a) else PRun Tryz.prog 106 [] [.i ε] (post q7 [] (fun a6 => (PRun Tryz.prog 213 [.o s] [.r 0 0, .i x, .i a6] (post q10 [.A] (fun i2 η v => (bif η != 0 then (bif !(η == 0) then Q (.i 10) (q18 b c d e f g h i j k l m n o p q v a) else y v) else (bif decide (i2 > 0) then (bif !(η == 0) then Q (.i 10) (q18 b c d e f g h i j k l m n o p q v a) else y v) else PRun Tryz.prog 73 [.o v] [.r 0 0] (post [.L 2] [.A] (fun i3 θ => (elL i3 (zyu .i64 (zyu .i64 (2 * zyu .i64 (x - 1)) + a6)) (fun a7 => dL 1 (ug a7 0) (fun i4 => dL 1 (ug a7 1) (fun i5 => (bif decide ((zyv i4 : Int) > 0) then (bif !(decide ((zyv i5 : Int) < 8)) then Q (.i 10) (q18 b c d e f g h i j k l m n o p q θ a) else y θ) else Q (.i 10) (q18 b c d e f g h i j k l m n o p q θ a))))) : Prop)))) : Prop))) : Prop))))) → ζ a5) → (bif decide (t ≥ 0) then ζ (!(decide (t ≤ 1099511627776))) else ζ true)))) : Prop)))) : PRun Tryz.prog 36 (q14 a8 a9 b0 b1 b2 b3 b4 b5 b6 b7 b8 b9 c0 c1 c2 c3 c4 c5) [.r 0 0, .i t, .i r] Q :=
 zad zkg Tryz.func36 (by kernel_rfl) (H := ⟨[], [((36, 5, 12), ⟨[(19, .B)], []⟩), ((36, 8, 12), ⟨[], [(6, .A)]⟩)], [94, 104, 105], [], [], false, 64, KN.no, false, SP.no⟩) (n := 3) (by kernel_rfl) hh
theorem S37 {ι μ ξ ο π ρ τ a0 k : Int} {κ ν σ υ ω a2 : List (List U)} {φ : List Int} {χ ψ a1 : Ob} (hh : PRun Tryz.prog 30 (q14 ι κ μ ν ξ ο π ρ σ τ υ φ χ ψ ω a0 a1 a2) [.r 0 0, .i k] (post q2 q1 (fun a3 a4 a5 a6 a7 a8 a9 b0 b1 b2 b3 b4 b5 b6 b7 b8 u a b c d e f g h l m n o p q r i j s => (bif u != 0 then (bif u != 0 then Q (.i u) (q18 a b c d e f g h m n o p q r i j s l) else dup2 (PRun Tryz.prog 180 [] [(q24 a b c d e f g h), .i 0] (post q8 [] (fun x h5 h6 h7 h8 => (PRun Tryz.prog 109 (q15 o p) [.r 0 0, .i 1, .i k, .i x, q16 0 0 x 1] (post q7 q3 (fun h9 b9 c0 => (PRun Tryz.prog 97 [.c [.l 13 i, .i j]] [.r 0 0, .i 0, .i k, .i 0] (post q7 q4 (fun i0 c1 c2 => (PRun Tryz.prog 110 (q14 a b c d e f g h m n b9 c0 q r c1 c2 s l) [.r 0 0, q17 0 0 0 0 0 0 0 0 0 0 0 [] 0 0 0 0, .i t] (post [] q1 (fun c3 c4 c5 c6 c7 c8 c9 d0 d1 d2 d3 d4 d5 d6 d7 d8 d9 e0 => (Q (.i 0) (q18 c3 c4 c5 c6 c7 c8 c9 d0 d2 d3 d4 d5 d6 d7 d8 d9 e0 d1) : Prop))) : Prop))) : Prop))) : Prop))))) else (bif decide (t ≥ 0) then (bif !(decide (t ≤ 1099511627776)) then Q (.i 1) (q18 a b c d e f g h m n o p q r i j s l) else PRun Tryz.prog 108 [] [(q17 a3 a4 a5 a6 a7 a8 a9 b0 b1 b2 b3 b4 b5 b6 b7 b8)] (post q2 [] (fun e1 y α β e2 γ v δ e3 e4 e5 e6 e7 e8 e9 f0 ε => (bif ε != 0 then Q (.i ε) (q18 a b c d e f g h m n o p q r i j s l) else dup2 (PRun Tryz.prog 180 [] [(q24 a b c d e f g h), .i γ] (post q8 [] (fun ζ i1 i2 i3 i4 => (PRun Tryz.prog 109 (q15 o p) [.r 0 0, .i 1, .i k, .i ζ, q16 α β ζ 1] (post q7 q3 (fun i5 f1 f2 => ∀ w : List (List U) → Int → Prop, (∀ η : List (List U), ∀ θ : Int, (PRun Tryz.prog 110 (q14 a b c d e f g h m n f1 f2 q r η θ s l) [.r 0 0, q17 e1 y α β e2 γ v δ e3 e4 e5 e6 e7 e8 e9 f0, .i t] (post [] q1 (fun f3 f4 f5 f6 f7 f8 f9 g0 g1 g2 g3 g4 g5 g6 g7 g8 g9 h0 => (Q (.i 0) (q18 f3 f4 f5 f6 f7 f8 f9 g0 g2 g3 g4 g5 g6 g7 g8 g9 h0 g1) : Prop)))) → w η θ) → (bif y == 1 then PRun Tryz.prog 97 [.c [.l 13 i, .i j]] [.r 0 0, .i v, .i k, .i δ] (post q7 q4 (fun i6 h1 h2 => (w h1 h2 : Prop))) else PRun Tryz.prog 97 [.c [.l 13 i, .i j]] [.r 0 0, .i v, .i k, .i 0] (post q7 q4 (fun i7 h3 h4 => (w h3 h4 : Prop)))))) : Prop)))) : Prop)))) else Q (.i 1) (q18 a b c d e f g h m n o p q r i j s l)) : Prop)))) : PRun Tryz.prog 37 (q14 ι κ μ ν ξ ο π ρ σ τ υ φ χ ψ ω a0 a1 a2) [.r 0 0, .i t, .i k] Q :=
 zad zkg Tryz.func37 (by kernel_rfl) (H := ⟨[], [((37, 7, 19), ⟨[], [(5, .c [.l 13, .i .i64])]⟩)], [88, 91, 94, 104, 107], [], [], false, 64, KN.no, false, SP.no⟩) (n := 5) (by kernel_rfl) hh
theorem S40 {x α β γ δ ζ ν π : Int} {w y ε η μ ο : List (List U)} {θ : List Int} {ι κ ξ : Ob} (hh : PRun Tryz.prog 30 (q14 v w x y α β γ δ ε ζ η θ ι κ μ ν ξ ο) [.r 0 0, .i π] (post q2 q1 (fun ρ σ τ υ φ χ ψ ω a0 a1 a2 a3 a4 a5 a6 a7 a b c d e f g h i j k l m n o p q r s => (bif a != 0 then (bif a == 0 then PRun Tryz.prog 110 (q14 b c d e f g h i k l m n o p q r s j) [.r 0 0, q17 0 0 0 0 0 0 0 0 0 0 0 [] 0 0 0 0, .i t] (post [] q1 (fun a8 a9 b0 b1 b2 b3 b4 b5 b6 b7 b8 b9 c0 c1 c2 c3 c4 c5 => (Q (.i a) (q18 a8 a9 b0 b1 b2 b3 b4 b5 b7 b8 b9 c0 c1 c2 c3 c4 c5 b6) : Prop))) else Q (.i a) (q18 b c d e f g h i k l m n o p q r s j)) else PRun Tryz.prog 114 [] [(q17 ρ σ τ υ φ χ ψ ω a0 a1 a2 a3 a4 a5 a6 a7), .i t] (post q2 [] (fun c6 c7 c8 c9 d0 d1 d2 d3 d4 d5 d6 d7 d8 d9 e0 e1 u => (bif u == 0 then PRun Tryz.prog 110 (q14 b c d e f g h i k l m n o p q r s j) [.r 0 0, q17 c6 c7 c8 c9 d0 d1 d2 d3 d4 d5 d6 d7 d8 d9 e0 e1, .i t] (post [] q1 (fun e2 e3 e4 e5 e6 e7 e8 e9 f0 f1 f2 f3 f4 f5 f6 f7 f8 f9 => (Q (.i u) (q18 e2 e3 e4 e5 e6 e7 e8 e9 f1 f2 f3 f4 f5 f6 f7 f8 f9 f0) : Prop))) else Q (.i u) (q18 b c d e f g h i k l m n o p q r s j) : Prop))) : Prop)))) : PRun Tryz.prog 40 (q14 v w x y α β γ δ ε ζ η θ ι κ μ ν ξ ο) [.r 0 0, .i t, .i π] Q :=
 zad zkg Tryz.func40 (by kernel_rfl) (H := ⟨[], [], [94, 113], [], [], false, 64, KN.no, false, SP.no⟩) (n := 4) (by kernel_rfl) hh
theorem S31 {c7 c9 d1 d2 d3 d4 d6 e2 a : Int} {c8 d0 d5 d7 e1 e4 : List (List U)} {d8 : List Int} {d9 e0 e3 : Ob} (hh : PRun Tryz.prog 30 (q14 c7 c8 c9 d0 d1 d2 d3 d4 d5 d6 d7 d8 d9 e0 e1 e2 e3 e4) [.r 0 0, .i a] (post q2 q1 (fun e5 e6 e7 e8 e9 f0 f1 f2 f3 f4 f5 f6 f7 f8 f9 g0 t c d e f g h i j b k l m n o p q r s => (bif t != 0 then (bif t == 0 then PRun Tryz.prog 96 (q14 c d e f g h i j k l m n o p q r s b) [.r 0 0, q17 0 0 0 0 0 0 0 0 0 0 0 [] 0 0 0 0] (post q7 q1 (fun w σ τ υ φ χ ψ ω a0 x a1 a2 a3 a4 a5 a6 a7 a8 a9 => (bif w == 0 then PRun Tryz.prog 97 [.c [.l 13 a7, .i a8]] [.r 0 0, .i 0, .i a, .i 0] (post q7 q4 (fun g9 g1 g2 => (0 ≤ zyu .i64 (a - 1) ∧ zyu .i64 (a - 1) < (zyv x : Int) ∧ (Q (.i w) (q18 σ τ υ φ χ ψ ω a0 a1 a2 a3 a4 a5 a6 g1 g2 a9 (zzb x (zyx (zyu .i64 (a - 1))) (q27 0 0 0 0 0 0 0 0 0 0 0 [] 0 0 0 0)))) : Prop))) else Q (.i w) (q18 σ τ υ φ χ ψ ω a0 a1 a2 a3 a4 a5 a6 a7 a8 a9 x) : Prop))) else (bif t == 0 then PRun Tryz.prog 97 [.c [.l 13 q, .i r]] [.r 0 0, .i 0, .i a, .i 0] (post q7 q4 (fun h0 g3 g4 => (0 ≤ zyu .i64 (a - 1) ∧ zyu .i64 (a - 1) < (zyv b : Int) ∧ (Q (.i t) (q18 c d e f g h i j k l m n o p g3 g4 s (zzb b (zyx (zyu .i64 (a - 1))) (q27 0 0 0 0 0 0 0 0 0 0 0 [] 0 0 0 0)))) : Prop))) else Q (.i t) (q18 c d e f g h i j k l m n o p q r s b))) else PRun Tryz.prog 95 [] [(q17 e5 e6 e7 e8 e9 f0 f1 f2 f3 f4 f5 f6 f7 f8 f9 g0)] (post q2 [] (fun y α β γ δ ε u ζ η θ ι κ μ ν ξ ο v => (bif v == 0 then PRun Tryz.prog 96 (q14 c d e f g h i j k l m n o p q r s b) [.r 0 0, q17 y α β γ δ ε u ζ η θ ι κ μ ν ξ ο] (post q7 q1 (fun π b0 b1 b2 b3 b4 b5 b6 b7 ρ b8 b9 c0 c1 c2 c3 c4 c5 c6 => (bif π == 0 then PRun Tryz.prog 97 [.c [.l 13 c4, .i c5]] [.r 0 0, .i u, .i a, .i 0] (post q7 q4 (fun h1 g5 g6 => (0 ≤ zyu .i64 (a - 1) ∧ zyu .i64 (a - 1) < (zyv ρ : Int) ∧ (Q (.i π) (q18 b0 b1 b2 b3 b4 b5 b6 b7 b8 b9 c0 c1 c2 c3 g5 g6 c6 (zzb ρ (zyx (zyu .i64 (a - 1))) (q27 y α β γ δ ε u ζ η θ ι κ μ ν ξ ο)))) : Prop))) else Q (.i π) (q18 b0 b1 b2 b3 b4 b5 b6 b7 b8 b9 c0 c1 c2 c3 c4 c5 c6 ρ) : Prop))) else (bif v == 0 then PRun Tryz.prog 97 [.c [.l 13 q, .i r]] [.r 0 0, .i u, .i a, .i 0] (post q7 q4 (fun h2 g7 g8 => (0 ≤ zyu .i64 (a - 1) ∧ zyu .i64 (a - 1) < (zyv b : Int) ∧ (Q (.i v) (q18 c d e f g h i j k l m n o p g7 g8 s (zzb b (zyx (zyu .i64 (a - 1))) (q27 y α β γ δ ε u ζ η θ ι κ μ ν ξ ο)))) : Prop))) else Q (.i v) (q18 c d e f g h i j k l m n o p q r s b)) : Prop))) : Prop)))) : PRun Tryz.prog 31 (q14 c7 c8 c9 d0 d1 d2 d3 d4 d5 d6 d7 d8 d9 e0 e1 e2 e3 e4) [.r 0 0, .i a] Q :=
 zad zkg Tryz.func31 (by kernel_rfl) (H := ⟨[], [], [94], [], [], false, 64, KN.no, false, SP.no⟩) (n := 3) (by kernel_rfl) hh
theorem S96 {a c e l γ ρ υ φ c8 π s u a3 c9 d0 d2 d3 d4 d5 : Int} {b d k β p d1 : List (List U)} {r : List Int} {m n o : Ob} (hh : dup2 (PRun Tryz.prog 181 [.c [.l 13 β, .i γ]] [.r 0 0, .i s] (post q5 q4 (fun a7 a8 a9 b0 δ b1 b2 b3 b4 b5 i j => (bif t == 1 then dup2 (PRun Tryz.prog 182 [] [(q24 a b c d e f g h), .i δ] (post q11 [] (fun ε ζ η θ ι κ μ b6 => (PRun Tryz.prog 203 [] [(q22 ε ζ η θ ι κ μ), .i u] (post [.agg [.i .i64, .i .i64], .I] [] (fun x y b7 => (PRun Tryz.prog 14 (q15 q r) [.r 0 0, .i x] (post q7 q3 (fun ν v w => (PRun Tryz.prog 173 [] [.i ν, .i y] (post q10 [] (fun ξ ο => (bif ο != 0 then Q (.i 5) (q14 a b c d e f g h k l v w m n i j o p) else (bif decide (ξ > 1125899906842624) then Q (.i 5) (q14 a b c d e f g h k l v w m n i j o p) else dup2 (PRun Tryz.prog 180 [] [(q24 a b c d e f g h), .i π] (post q8 [] (fun α b8 b9 c0 c1 => (PRun Tryz.prog 204 (q15 v w) [.r 0 0, .i 1, .i ρ, .i α] (post [.L 2, .I] q3 (fun c2 c3 σ τ => (PRun Tryz.prog 205 (q15 σ τ) [.r 0 0, q16 υ φ α x, .i y] (post q7 q3 (fun c4 χ ψ => (Q (.i 0) (q14 a b c d e f g h k l χ ψ m n i j o p) : Prop))) : Prop))) : Prop))))) : Prop))) : Prop))) : Prop))) : Prop)))) else (bif t == 2 then PRun Tryz.prog 206 [.c [.l 13 i, .i j]] [.r 0 0, .i s, .i u, .i 0] (post q7 q4 (fun c5 ω a0 => (Q (.i 0) (q14 a b c d e f g h k l q r m n ω a0 o p) : Prop))) else (bif t == 3 then PRun Tryz.prog 206 [.c [.l 13 i, .i j]] [.r 0 0, .i s, .i 0, .i u] (post q7 q4 (fun c6 a1 a2 => (Q (.i 0) (q14 a b c d e f g h k l q r m n a1 a2 o p) : Prop))) else (bif t == 4 then PRun Tryz.prog 207 [.c [.l 13 i, .i j]] [.r 0 0, .i s, .i a3, .i u] (post [.L 1, .I] q4 (fun c7 a4 a5 a6 => (Q (.i a4) (q14 a b c d e f g h k l q r m n a5 a6 o p) : Prop))) else Q (.i 0) (q14 a b c d e f g h k l q r m n i j o p)))) : Prop))))) : PRun Tryz.prog 96 (q14 a b c d e f g h k l q r m n β γ o p) [.r 0 0, q17 ρ t υ φ c8 π s u a3 c9 d0 d1 d2 d3 d4 d5] Q :=
 zad zkg Tryz.func96 (by kernel_rfl) (H := ⟨[], [], [88], [], [], false, 64, KN.no, false, SP.no⟩) (n := 3) (by kernel_rfl) hh
end
section
set_option maxRecDepth 100000
theorem mixTl2 : Tryz.prog.follows .mixedOrders = true := by kernel_rfl
theorem S9 {k q a ο l8 b4 b5 b6 b7 b8 b9 c0 c1 : Int} {j l p s : List (List U)} {m : List Int} {n o r : Ob} (hh : bif t == 1 then PRun Tryz.prog 29 (q14 b c d e f g h i j k l m n o p q r s) [.r 0 0, .i a, .a [.i b4, .i b5, .i b6, .i b7, .i b8, .i b9, .i c0, .i c1]] (post q10 q1 (fun c2 c3 c4 c5 c6 c7 c8 c9 d0 d1 d2 d3 d4 d5 d6 d7 d8 d9 e0 e1 => (Q (.t [.i a, .i c2, .i c3]) (q18 c4 c5 c6 c7 c8 c9 d0 d1 d3 d4 d5 d6 d7 d8 d9 e0 e1 d2) : Prop))) else (bif t == 2 then PRun Tryz.prog 35 (q14 b c d e f g h i j k l m n o p q r s) [.r 0 0, .i a, .i ο] (post q7 q1 (fun e2 e3 e4 e5 e6 e7 e8 e9 f0 f1 f2 f3 f4 f5 f6 f7 f8 f9 g0 => (Q (.t [.i a, .i 0, .i e2]) (q18 e3 e4 e5 e6 e7 e8 e9 f0 f2 f3 f4 f5 f6 f7 f8 f9 g0 f1) : Prop))) else (bif t == 3 then PRun Tryz.prog 36 (q14 b c d e f g h i j k l m n o p q r s) [.r 0 0, .i a, .i ο] (post q7 q1 (fun g1 g2 g3 g4 g5 g6 g7 g8 g9 h0 h1 h2 h3 h4 h5 h6 h7 h8 h9 => (Q (.t [.i a, .i 0, .i g1]) (q18 g2 g3 g4 g5 g6 g7 g8 g9 h1 h2 h3 h4 h5 h6 h7 h8 h9 h0) : Prop))) else (bif t == 4 then PRun Tryz.prog 37 (q14 b c d e f g h i j k l m n o p q r s) [.r 0 0, .i a, .i ο] (post q7 q1 (fun i0 i1 i2 i3 i4 i5 i6 i7 i8 i9 j0 j1 j2 j3 j4 j5 j6 j7 j8 => (Q (.t [.i a, .i 0, .i i0]) (q18 i1 i2 i3 i4 i5 i6 i7 i8 j0 j1 j2 j3 j4 j5 j6 j7 j8 i9) : Prop))) else (bif t == 5 then PRun Tryz.prog 31 (q14 b c d e f g h i j k l m n o p q r s) [.r 0 0, .i ο] (post q7 q1 (fun j9 k0 k1 k2 k3 k4 k5 k6 k7 k8 k9 l0 l1 l2 l3 l4 l5 l6 l7 => (Q (.t [.i a, .i 0, .i j9]) (q18 k0 k1 k2 k3 k4 k5 k6 k7 k9 l0 l1 l2 l3 l4 l5 l6 l7 k8) : Prop))) else PRun Tryz.prog 38 [] [.i l8] (post q7 [] (fun ρ => ∃ (σ : Int → Int → List (List U) → Int → List (List U) → Int → Int → Int → Int → List (List U) → List (List U) → Int → List (List U) → List Int → Ob → Ob → List (List U) → Int → Ob → Prop) (τ : Int → Int → List (List U) → Int → List (List U) → Int → Int → Int → Int → List (List U) → List (List U) → Int → List (List U) → List Int → Ob → Ob → List (List U) → Int → Ob → Nat), σ 0 b c d e f g h i s j k l m n o p q r ∧ (∀ u v : Int, ∀ w : List (List U), ∀ x : Int, ∀ y : List (List U), ∀ α β γ δ : Int, ∀ ε ζ : List (List U), ∀ η : Int, ∀ θ : List (List U), ∀ ι : List Int, ∀ π κ : Ob, ∀ μ : List (List U), ∀ ν : Int, ∀ ξ : Ob, σ u v w x y α β γ δ ε ζ η θ ι π κ μ ν ξ → (bif decide (u < 256) then PRun Tryz.prog 39 [.o π] [.r 0 0, .i (zyu .i64 (a + ρ))] (post [.agg [.i .i64, .i .i64, .i .i64], .B] [.A] (fun l9 m2 m0 m1 υ => (bif !m1 then Q (.t [.i (zyu .i64 (a + ρ)), .i 0, .i 0]) (q18 v w x y α β γ δ ζ η θ ι υ κ μ ν ξ ε) else (2 : Int) ≠ 0 ∧ (PRun Tryz.prog 40 (q14 v w x y α β γ δ ζ η θ ι υ κ μ ν ξ ε) [.r 0 0, .i l9, .i (zyu .i64 (Int.tdiv m0 2))] (post q7 q1 (fun m3 φ χ ψ ω a0 a1 a2 a3 a4 a5 a6 a7 a8 a9 b0 b1 b2 b3 => (σ (zyu .i64 (u + 1)) φ χ ψ ω a0 a1 a2 a3 a4 a5 a6 a7 a8 a9 b0 b1 b2 b3 ∧ τ (zyu .i64 (u + 1)) φ χ ψ ω a0 a1 a2 a3 a4 a5 a6 a7 a8 a9 b0 b1 b2 b3 < τ u v w x y α β γ δ ε ζ η θ ι π κ μ ν ξ : Prop)))) : Prop))) else Q (.t [.i (zyu .i64 (a + ρ)), .i 0, .i 0]) (q18 v w x y α β γ δ ζ η θ ι π κ μ ν ξ ε)))))))))) : PRun Tryz.prog 9 (q14 b c d e f g h i j k l m n o p q r s) [(q26 ), .i a, .a [.i t, .i ο, .i l8, .i b4, .i b5, .i b6, .i b7, .i b8, .i b9, .i c0, .i c1]] Q :=
 zad mixTl2 Tryz.func9 (by kernel_rfl) (H := ⟨[((9, 15, 10), ⟨[(12, .I)], [(0, .c [.i .i64, .l 7, .i .i64, .l 4, .i .i64, .i .i64, .i .i64, .i .i64, .r 1 0, .r 2 0, .r 3 0, .r 4 0, .r 5 0, .r 6 0, .ow 48 16]), (1, .c [.l 5, .i .i64]), (2, .c [.l 5, .n 33]), (3, .A), (4, .A), (5, .c [.l 13, .i .i64]), (6, .A)]⟩)], [], [], [], [], false, 64, KN.no, false, SP.no⟩) (n := 2) (by kernel_rfl) hh
end
section
set_option maxRecDepth 100000
theorem mixTl1 : Tryz.prog.follows .mixedOrders = true := by kernel_rfl
theorem S38 {a : Int} (hh : Q (.i (zyu .i64 (BitVec.toNat (BitVec.ofInt 64 a &&& (BitVec.ofInt 64 255)) : Int))) []) : PRun Tryz.prog 38 [] [.i a] Q :=
 zad mixTl1 Tryz.func38 (by kernel_rfl) (H := ⟨[], [], [], [], [], false, 64, KN.no, false, SP.no⟩) (n := 2) (by kernel_rfl) hh
end
section
set_option maxRecDepth 100000
theorem zw1 : Tryz.prog.follows .mixedOrders = true := by kernel_rfl
theorem S33 {c : List (MK × List U)} (hh : PRun Tryz.prog 99 [] [.l 4 a] (post [.L 4] [] (fun b => (Q (.l 4 b) [.c [.w 1, .m 2], .x, .p (.a 2) 1 false c] : Prop)))) : PRun Tryz.prog 33 [.c [.w 1, .m 2], .w 43 4 a, .p (.a 2) 1 false c] [.r 0 0] Q :=
 zad zw1 Tryz.func33 (by kernel_rfl) (H := ⟨[], [], [], [], [], false, 64, KN.no, false, SP.no⟩) (n := 2) (by kernel_rfl) hh
theorem S33e (hh : PRun Tryz.prog 99 [] [.l 4 []] (post [.L 4] [] (fun a => (Q (.l 4 a) [.c [.nl 4, .nm]] : Prop)))) : PRun Tryz.prog 33 [.c [.nl 4, .nm]] [.r 0 0] Q :=
 zad zw1 Tryz.func33 (by kernel_rfl) (H := ⟨[], [], [], [], [], false, 64, KN.no, false, SP.no⟩) (n := 2) (by kernel_rfl) hh
theorem S99 (hh : bif List.isEmpty a then ((Q (.l 4 []) [] : Prop) ∧ (zan [] a ∧ (match a with | _ :: _ => (Q (.l 4 ([] ++ a)) []) | [] => (Q (.c 4 []) []) : Prop) : Prop)) else (zan [] a ∧ (match a with | _ :: _ => (Q (.l 4 ([] ++ a)) []) | [] => (Q (.c 4 []) []) : Prop) : Prop)) : PRun Tryz.prog 99 [] [.l 4 a] Q :=
 zad zw1 Tryz.func99 (by kernel_rfl) (H := ⟨[], [], [], [], [], false, 64, KN.no, false, SP.no⟩) (n := 2) (by kernel_rfl) hh
end
section
variable {P : Program} {D D' : Fz} {ρ ρ' : List Loc} {m m' : Mem} {chs C : List zac} {h h' : zaf} {ro hr : List Nat}
theorem zbm {ops : Array Oper} {Q : Exit → Act → World → Prop} {o : Oper} {rest : List Oper} {a : Act} {n : Nat} (hg : o.guard = none) (hh : o.wpIn (FW r) n P a w (wpListIn (FW r) n P ops Q rest) Q) : wpListIn (FW r) n P ops Q (o :: rest) a w := by
 unfold wpListIn
 rw [if_pos (by simp [Region.wanted, hg])]
 exact hh
theorem zav {a : Act} {l : List Value} {d : Option Tmp} {v : Value} (h : a.tmps.toList = l) : (a.put d v).tmps.toList = lput l d v := by rw [zeq, h]
theorem zj5 {ops : Array Oper} {Q : Exit → Act → World → Prop} {a : Act} {n : Nat} (hh : Q .normal a w) : wpListIn (FW r) n P ops Q [] a w := hh
theorem SAt.cget (M : SAt D ρ m chs C h) {b : Nat} {o : Obj} (hm : [(b, o)] ∈ C) : h[b]? = some o :=
 M.st.own (b, o) (List.mem_flatten.2 ⟨_, zy6.2 (.inr hm), zzx _⟩)
theorem zpg {o : Oper} {a : Act} {Q : Exit → Act → World → Prop} {n : Nat} {v : Value} (hd : zcr o = false) (h : (execOp (ev a.tmps.toList) o).run P w = .ok (.value v) w) (hn : next (a.put o.dst v) w) : o.wpIn (FW r) n P a w next Q :=
 zrz hd (by unfold Oper.wp; rw [zbb, h]; exact hn)
theorem w_eff {o : Oper} {a : Act} {Q : Exit → Act → World → Prop} {n : Nat} {K : Value → zaf → Prop} (hd : zcr o = false) (h : zt8 P ⟨[], [], []⟩ a.tmps.toList o w.heap K) (hn : ∀ v w', K v w'.heap → Same w w' → next (a.put o.dst v) w') : o.wpIn (FW r) n P a w next Q :=
 zrz hd (zew (SWp.r (zct h)) (zbb a) rfl hn)
theorem zux {T : TypeId} {z : Value} (hl : zc9 P T = some (.one z)) {t : List Value} {x : Operand} {b : Nat} {v : Value} (hx : ev t x = .pointer (some ⟨b, 0, none⟩)) (hb : w.heap[b]? = some (.cells #[v] E (0, 0))) :
 (execOp (ev t) ⟨dst, .load T x, ty, pos, after, guard⟩).run P w = .ok (.value v) w := by
 have := ze9 (P := P) hl (b := b) (o := 0) (v := v) (w := w) (by rw [zaz hb]; rfl)
 simp [execOp, Instr.loadAt, Instr.sureAddr, hx, this]
theorem zuw {T : TypeId} {z : Value} (hl : zc9 P T = some (.one z)) {a : Act} {x y : Operand} {b : Nat} {u v : Value} {C1 C2 : List zac} (hx : ev a.tmps.toList x = .pointer (some ⟨b, 0, none⟩)) (hy : ev a.tmps.toList y = v) (hs : single v = true)
 (M : SAt D ρ m chs (C1 ++ [(b, .cells #[u] E (0, 0))] :: C2) w.heap) {Q : Exit → Act → World → Prop} {n : Nat} (hn : ∀ w', SAt D ρ m chs (C1 ++ [(b, .cells #[v] E (0, 0))] :: C2) w'.heap → Same w w' → next (a.put dst undef) w') :
 (⟨dst, .store T x y, ty, pos, after, guard⟩ : Oper).wpIn (FW r) n P a w next Q := by
 refine w_eff (K := fun v' h' => v' = undef ∧ SAt D ρ m chs (C1 ++ [(b, .cells #[v] E (0, 0))] :: C2) h') rfl ?_ ?_
 · simp only [zt8, hx, hy, zfm, hl]
   have hq : ∀ v : Value, (([(b, Obj.cells #[v] E (0, 0))] :: (chs ++ (C1 ++ C2))).flatten).Perm (chs ++ (C1 ++ [(b, .cells #[v] E (0, 0))] :: C2)).flatten := fun v => by
    simp only [zzs, zzd]
    exact (zz2 _ _ _).trans ((zz2 _ _ _).append_left _)
   have S := M.st.perm (hq u).symm
   have S' : St D ([(b, .cells ⟨[u]⟩ E (0, 0))] :: (chs ++ (C1 ++ C2))) w.heap := S
   exact onPtr_s (S'.sk0 (v := v) (o := 0) rfl hs fun h' S2 => ⟨trivial, M.mono (.refl D) (St.perm S2 (hq v))⟩)
 · rintro v' w' ⟨rfl, M'⟩ s
   exact hn w' M' s
theorem w_call {g : FuncId} {a : Act} {x : Operand} {args : Array Operand} {tys : Array TypeId} {f c : Array Value} {K : Value → zaf → Prop} {Q : Exit → Act → World → Prop} {n : Nat}
 (hx : ev a.tmps.toList x = .func (.func g) f c) (hv : (f ++ args.map (ev a.tmps.toList) ++ c).toList = vs) (hrun : Run P g vs w.heap K) (hn : ∀ v w', K v w'.heap → Same w w' → next (a.put dst v) w') : (⟨dst, .call ⟨.value x, args, tys⟩, ty, pos, after, guard⟩ : Oper).wpIn (FW r) n P a w next Q := by
 subst hv
 refine zrz rfl (zew (K := K) (SWp.r ?_) (zbb a) rfl hn)
 simp only [execOp, resolve, hx, Deferred.ofValue]
 exact zmh hrun.1 hrun
theorem w_defer {a : Act} {x : Operand} {f : Fn} {p c : Array Value} {tys : Array TypeId} {d : Deferred} {Q : Exit → Act → World → Prop} {n : Nat}
 (hx : ev a.tmps.toList x = .func f p c) (hd : ({ target := .fn f c, args := p } : Deferred) = d) (hn : next (({ a with defers := d :: a.defers } : Act).put dst undef) w) : (⟨dst, .defer ⟨.value x, #[], tys⟩, ty, pos, after, guard⟩ : Oper).wpIn (FW none) n P a w next Q := by
 refine ⟨fun _ _ => trivial, ?_⟩
 rw [show (FW none).round = none from rfl, Oper.semAt_none, zbb]
 simp only [execOp, resolve, hx, Deferred.ofValue]
 subst hd
 simp
 exact hn
structure WhP (P : Program) : Prop where
 fw : P.funcs[190]? = some Tryz.f190
 fc : P.funcs[289]? = some Tryz.f289
 nw : ((Tryz.f190).name == "runtime.NumGoroutine") = false
 nc : ((Tryz.f289).name == "runtime.NumGoroutine") = false
 tp : zc9 P 25 = some (.one (.pointer none))
 te : zc9 P 33 = some (.one (.int .i64 0))
 ze : (P.info? 33).bind (·.zero) = some (.int .i64 0)
 zp : (P.info? 25).bind (·.zero) = some (.pointer none)
 un : P.underlying 25 = some (.pointer 130)
theorem whp : WhP Tryz.prog := ⟨Tryz.func190, Tryz.func289, by kernel_rfl, by kernel_rfl, by kernel_rfl, by kernel_rfl, by kernel_rfl, by kernel_rfl, by kernel_rfl⟩
end
section
variable {P : Program} {D D' : Fz} {ρ ρ' : List Loc} {m m' : Mem} {chs C : List zac} {h h' : zaf} {ro hr : List Nat}
noncomputable def zej : Code := match Tryz.f289.body with
 | some (.seq _ (.cond _ c _)) => c
 | _ => .skip
def zce : Code → Array Oper
 | .region _ ops _ => ops
 | _ => #[]
abbrev zww : List Nat → zel := fun _ _ _ _ _ => False
noncomputable def finX (P : Program) (ro hr : List Nat) (b o : Nat) (x e : V) (m2 : Mem) (KS : V → Mem → Prop) : Prop :=
 match e with
 | .u (.i .i64 n) => cond (n != 0) (zgt P false ro hr zww (zce zej).toList (fun _ m3 => KS (.u (.i .i64 n)) m3) (zce zej).toList.length [] [] [.z, .r m2.length 0, .r (m2.length + 1) 0, .i n, .u (.b true), .z, .z, .z, .z, .z] (m2 ++ [.c [x], .c [.r b o]])) (KS (.u (.i .i64 n)) m2)
 | _ => False
noncomputable def zuv (P : Program) (ro : List Nat) (call : zel) (G : FuncId) (args : List V) (m : Mem) (K : V → Mem → Prop) : Option Prop :=
 cond (zyw G 190) (match args with
  | [.r b o, .f g a c] => some (call 215 [.r b o] m fun x m1 => cond (zoc x) (call g (a ++ c) m1 fun e m2 => finX P ro [] b o x e m2 K) False)
  | _ => some False) none
theorem zss {vw : Bool} {ops : List Oper} {K : List V → Mem → Prop} : ∀ (n : Nat) (done : List Nat) (held : List (Nat × List Nat)) (t : List V) (m : Mem), zgt P vw (hr ++ ro) [] zww ops K n done held t m = zgt P vw ro hr zww ops K n done held t m
 | 0, _, _, _, _ => rfl
 | n + 1, done, held, t, m => by
   simp only [zgt, zss n, zzw, zy8]
theorem isPtr_n {x : V} (h : zoc x = true) : ∀ k w l, x ≠ .n k w l := fun k w l e => by subst e; cases h
theorem backD : ∀ o ∈ (zce zej).toList, zcr o = false := fun o ho => by
 have : ((zce zej).toList.all fun o => !zcr o) = true := by kernel_rfl
 simpa using z0d.1 this o ho
theorem backMx : ∀ o ∈ (zce zej).toList, ∀ d, o.dst = some d → d ∈ zcc zej := fun o ho d hd => by
 have e : zej = .region (match zej with | .region i _ _ => i | _ => 0) (zce zej) true := by kernel_rfl
 rw [e]
 simp only [zcc, zy6]
 exact .inl (List.mem_filterMap.2 ⟨o, ho, hd⟩)
theorem wholeX_S (hmix : P.follows .mixedOrders = true) (hP : WhP P) {X : Fz → List Loc → Prop} {call : zel} (hX : Stab X) (hcall : zga P X ro hr call) {b o : Nat} {g : FuncId} {a c : List V} {KS : V → Mem → Prop} 
 (M0 : m.length = ρ.length) (hs : call 215 [.r b o] m fun x m1 => cond (zoc x) (call g (a ++ c) m1 fun e m2 => finX P (hr ++ ro) [] b o x e m2 KS) False) (xx : X D ρ) (M : SAt D ρ m chs C h) (ha : RpL D ρ vs [.r b o, .f g a c]) : Run P 190 vs h (zcx ro hr D ρ m chs C KS) := by
 cases ha with
 | cons h1 ha2 =>
 cases ha2 with
 | cons h2 ha3 =>
 cases ha3
 obtain ⟨L, hL, rfl⟩ := h1.r_inv
 obtain ⟨xs, ys, rfl, hxs, hys⟩ := h2.f_inv
 refine ⟨⟨Tryz.f190, hP.fw, hP.nw, rfl⟩, fun w hw => ?_⟩
 subst hw
 refine (callsIn_wide (n := 0)).1 (callsIn_of_wp_marks (F := FW none) hP.fw rfl trivial ?_)
 generalize hB : Value.pointer (some ⟨L.b, o, none⟩) = vB at *
 generalize hF : Value.func (.func g) xs.toArray ys.toArray = vF at *
 -- the frame
 have e0 : ((#[vB, vF] : Array Value) ++ Array.replicate ((Tryz.f190).ntmps - #[vB, vF].size) undef).toList = [vB, vF, undef, undef, undef, undef, undef, undef, undef, undef, undef, undef, undef] := rfl
 generalize h0 : ({ tmps := [vB, vF].toArray ++ Array.replicate ((Tryz.f190).ntmps - [vB, vF].toArray.size) undef, defers := [] } : Act) = a0
 have f0 : a0.tmps.toList = [vB, vF, undef, undef, undef, undef, undef, undef, undef, undef, undef, undef, undef] := by rw [← h0]; exact e0
 have d0 : a0.defers = [] := by rw [← h0]
 clear h0 e0
 have cB : vB.cells = #[vB] := by rw [← hB]; rfl
 -- region 0
 refine wpIn_seq (wpIn_region_list ?_)
 refine zbm rfl ?_
 refine w_eff (K := fun v h' => ∃ b2, v = .pointer (some ⟨b2, 0, none⟩) ∧ SAt D ρ m chs ([(b2, .cells #[vB] 25 (0, 0))] :: C) h') rfl ?_ ?_
 · simp only [zt8, f0]
   exact ⟨_, rfl, by rw [show (ev [vB, vF, undef, undef, undef, undef, undef, undef, undef, undef, undef, undef, undef] (.tmp 0)).cells = #[vB] from cB]; exact M.cpush _⟩
 rintro _ w1 ⟨b2, rfl, M1⟩ s1
 have f1 := zav (d := some 2) (v := (.pointer (some ⟨b2, 0, none⟩))) f0
 have d1 : (a0.put (some 2) (.pointer (some ⟨b2, 0, none⟩))).defers = [] := by rw [zaj, d0]
 generalize a0.put (some 2) (.pointer (some ⟨b2, 0, none⟩)) = a1 at f1 d1 ⊢
 refine zbm rfl ?_
 refine w_eff (K := fun v h' => ∃ b4, v = .pointer (some ⟨b4, 0, none⟩) ∧ SAt D ρ m chs ([(b4, .cells #[.int .i64 0] 33 (0, 0))] :: [(b2, .cells #[vB] 25 (0, 0))] :: C) h') rfl ?_ ?_
 · simp only [zt8]
   rw [hP.ze]
   exact ⟨_, rfl, M1.cpush _⟩
 rintro _ w2 ⟨b4, rfl, M2⟩ s2
 have f2 := zav (d := some 4) (v := (.pointer (some ⟨b4, 0, none⟩))) f1
 have d2 : (a1.put (some 4) (.pointer (some ⟨b4, 0, none⟩))).defers = [] := by rw [zaj, d1]
 generalize a1.put (some 4) (.pointer (some ⟨b4, 0, none⟩)) = a2 at f2 d2 ⊢
 refine zj5 ?_
 -- region 1, the test
 refine wpIn_seq (wpIn_seq (wpIn_region_list (zbm rfl ?_)))
 refine zpg rfl (zux hP.tp (b := b2) (v := vB) (E := 25) (by rw [f2]; rfl) (M2.cget (by simp))) ?_
 have f3 := zav (d := some 6) (v := vB) f2
 have d3 : (a2.put (some 6) vB).defers = [] := by rw [zaj, d2]
 generalize a2.put (some 6) vB = a3 at f3 d3 ⊢
 refine zbm rfl ?_
 obtain ⟨vc, hvc, hrc⟩ := zjh (P := P) (op := .eql) (T := 25) (x := .tmp 6) (y := .const (.pointer none)) (a := vB) (b := .pointer none) (K := fun v => v = .bool false) (by rw [← hB]; simp only [zue, hP.un]; rfl)
 subst hvc
 refine zpg (v := .bool false) rfl ?_ ?_
 · have e1 : ev a3.tmps.toList (.tmp 6) = vB := by rw [f3]; rfl
   have e2 : ev a3.tmps.toList (.const (.pointer none)) = .pointer none := rfl
   simp only [execOp, e1, e2]
   rw [Sem.run_bind, hrc]
   rfl
 have f4 := zav (d := some 7) (v := (.bool false)) f3
 have d4 : (a3.put (some 7) (.bool false)).defers = [] := by rw [zaj, d3]
 generalize a3.put (some 7) (.bool false) = a4 at f4 d4 ⊢
 refine zj5 ?_
 refine wpIn_cond_false (by rw [zbb, f4]; rfl) (wpIn_skip ?_)
 -- region 3: the clone
 refine wpIn_seq (wpIn_region_list (zbm rfl ?_))
 refine zpg rfl (zux hP.tp (b := b2) (v := vB) (E := 25) (by rw [f4]; rfl) (M2.cget (by simp))) ?_
 have f5 := zav (d := some 8) (v := vB) f4
 have d5 : (a4.put (some 8) vB).defers = [] := by rw [zaj, d4]
 generalize a4.put (some 8) vB = a5 at f5 d5 ⊢
 refine zbm rfl ?_
 have hrun1 := hcall (vs := [vB]) xx hs M2 (by rw [← hB]; exact .cons (.r hL) .nil)
 refine w_call (g := 215) (f := #[]) (c := #[]) (vs := [vB]) rfl (by rw [f5]; simp; rfl) hrun1 ?_
 rintro v9 w3 ⟨D1, ρ1, m1, c1, x1, n1, M3, hx1, hk1⟩ s3
 obtain ⟨hp1, hk1⟩ := zaa hk1
 obtain ⟨p9, rfl⟩ := hx1.ptr hp1
 have f6 := zav (d := some 9) (v := .pointer (some p9)) f5
 have d6 : (a5.put (some 9) (.pointer (some p9))).defers = [] := by rw [zaj, d5]
 generalize a5.put (some 9) (.pointer (some p9)) = a6 at f6 d6 ⊢
 refine zbm rfl ?_
 refine w_eff (K := fun v h' => ∃ b5, v = .pointer (some ⟨b5, 0, none⟩) ∧ SAt D1 ρ1 m1 c1 ([(b5, .cells #[.pointer none] 25 (0, 0))] :: [(b4, .cells #[.int .i64 0] 33 (0, 0))] :: [(b2, .cells #[vB] 25 (0, 0))] :: C) h') rfl ?_ ?_
 · simp only [zt8]
   rw [hP.zp]
   exact ⟨_, rfl, M3.cpush _⟩
 rintro _ w4 ⟨b5, rfl, M4⟩ s4
 have f7 := zav (d := some 5) (v := .pointer (some ⟨b5, 0, none⟩)) f6
 have d7 : (a6.put (some 5) (.pointer (some ⟨b5, 0, none⟩))).defers = [] := by rw [zaj, d6]
 generalize a6.put (some 5) (.pointer (some ⟨b5, 0, none⟩)) = a7 at f7 d7 ⊢
 refine zbm rfl ?_
 refine zuw hP.tp (C1 := []) (b := b5) (u := .pointer none) (v := .pointer (some p9)) (by rw [f7]; rfl) (by rw [f7]; rfl) rfl M4 ?_
 intro w5 M5 s5
 have f8 := zav (d := none) (v := undef) f7
 have d8 : (a7.put none undef).defers = [] := by rw [zaj, d7]
 generalize a7.put none undef = a8 at f8 d8 ⊢
 refine zj5 ?_
 -- region 4: what is deferred
 refine wpIn_seq (wpIn_region_list (zbm rfl ?_))
 refine zpg (v := .func (.func 289) #[] #[.pointer (some ⟨b4, 0, none⟩), .pointer (some ⟨b5, 0, none⟩), .pointer (some ⟨b2, 0, none⟩)]) rfl ?_ ?_
 · simp only [execOp, Instr.makeFunc, f8, List.map_toArray, zzj, z1n]; rfl
 have f9 := zav (d := some 10) (v := .func (.func 289) #[] #[.pointer (some ⟨b4, 0, none⟩), .pointer (some ⟨b5, 0, none⟩), .pointer (some ⟨b2, 0, none⟩)]) f8
 have d9 : (a8.put (some 10) (.func (.func 289) #[] #[.pointer (some ⟨b4, 0, none⟩), .pointer (some ⟨b5, 0, none⟩), .pointer (some ⟨b2, 0, none⟩)])).defers = [] := by rw [zaj, d8]
 generalize a8.put (some 10) (.func (.func 289) #[] #[.pointer (some ⟨b4, 0, none⟩), .pointer (some ⟨b5, 0, none⟩), .pointer (some ⟨b2, 0, none⟩)]) = a9 at f9 d9 ⊢
 refine zbm rfl ?_
 generalize hd : ({ target := .fn (.func 289) #[.pointer (some ⟨b4, 0, none⟩), .pointer (some ⟨b5, 0, none⟩), .pointer (some ⟨b2, 0, none⟩)], args := #[] } : Deferred) = dd
 refine w_defer (f := .func 289) (p := #[]) (c := #[.pointer (some ⟨b4, 0, none⟩), .pointer (some ⟨b5, 0, none⟩), .pointer (some ⟨b2, 0, none⟩)]) (d := dd) (by rw [f9]; rfl) hd ?_
 have f10 := zav (a := { a9 with defers := dd :: a9.defers }) (d := none) (v := undef) f9
 have d10 : (({ a9 with defers := dd :: a9.defers } : Act).put none undef).defers = [dd] := by rw [zaj, d9]
 generalize ({ a9 with defers := dd :: a9.defers } : Act).put none undef = a10 at f10 d10 ⊢
 refine zj5 ?_
 -- region 5: the call
 refine wpIn_seq (wpIn_region_list (zbm rfl ?_))
 refine zpg (v := vF) rfl ?_ ?_
 · simp only [execOp, f10]; rfl
 have f11 := zav (d := some 11) (v := vF) f10
 have d11 : (a10.put (some 11) vF).defers = [dd] := by rw [zaj, d10]
 generalize a10.put (some 11) vF = a11 at f11 d11 ⊢
 refine zbm rfl ?_
 have hrun2 := hcall (hX.nx n1 xx) hk1 M5 (n1.rpL (hxs.app hys))
 refine w_call (g := g) (f := xs.toArray) (c := ys.toArray) (vs := xs ++ ys) (by rw [f11, ← hF]; rfl) (by simp) hrun2 ?_
 rintro v12 w6 ⟨D2, ρ2, m2, c2, x2, n2, M6, hx2, hk2⟩ s6
 obtain ⟨z, hz, hk3⟩ : ∃ z : Int, x2 = .u (.i .i64 z) ∧ cond (z != 0) (zgt P false (hr ++ ro) [] zww (zce zej).toList (fun _ m3 => KS (.u (.i .i64 z)) m3) (zce zej).toList.length [] [] [.z, .r m2.length 0, .r (m2.length + 1) 0, .i z, .u (.b true), .z, .z, .z, .z, .z] (m2 ++ [.c [x1], .c [.r b o]])) (KS (.u (.i .i64 z)) m2) := by
  unfold finX at hk2
  split at hk2
  · exact ⟨_, rfl, hk2⟩
  · exact hk2.elim
 subst hz
 have e12 := zha hx2
 subst e12
 have f12 := zav (d := some 12) (v := .int .i64 z) f11
 have d12 : (a11.put (some 12) (.int .i64 z)).defers = [dd] := by rw [zaj, d11]
 generalize a11.put (some 12) (.int .i64 z) = a12 at f12 d12 ⊢
 refine zbm rfl ?_
 refine zuw hP.te (C1 := [_]) (b := b4) (u := .int .i64 0) (v := .int .i64 z) (by rw [f12]; rfl) (by rw [f12]; rfl) rfl M6 ?_
 intro w7 M8 s7
 have f13 := zav (d := none) (v := undef) f12
 have d13 : (a12.put none undef).defers = [dd] := by rw [zaj, d12]
 generalize a12.put none undef = a13 at f13 d13 ⊢
 refine zj5 (wpIn_ret ?_)
 -- the door
 show LeavesInM _ _ P _ a13.tmps _ a13.defers .returning w7
 rw [d13, ← hd]
 have ss := s1.trans (s2.trans (s3.trans (s4.trans (s5.trans (s6.trans s7)))))
 have n12 := n1.trans n2
 refine ⟨by simp, .inr ⟨(by intro h; cases h), _, _, _, _, rfl, zd7 ⟨_, hP.fc, hP.nc, rfl⟩ _ _, fun _ _ => trivial, (callsDIn_of_wp (R := fun e w' => e = .returned (.tuple #[]) ∧ Same w7 w' ∧ ∃ D' ρ' m' chs', Nx ro hr D ρ m chs D' ρ' m' chs' ∧ SAt D' ρ' m' chs' ([(b4, .cells #[.int .i64 z] 33 (0, 0))] :: C) w'.heap ∧ KS (.u (.i .i64 z)) m') hP.fc rfl trivial ?_).mono ?_⟩⟩
 · generalize h0 : ({ tmps := #[] ++ #[Value.pointer (some ⟨b4, 0, none⟩), .pointer (some ⟨b5, 0, none⟩), .pointer (some ⟨b2, 0, none⟩)] ++ Array.replicate ((Tryz.f289).ntmps - (#[] ++ #[Value.pointer (some ⟨b4, 0, none⟩), .pointer (some ⟨b5, 0, none⟩), .pointer (some ⟨b2, 0, none⟩)]).size) undef, defers := [] } : Act) = q0
   have g0 : q0.tmps.toList = [Value.pointer (some ⟨b4, 0, none⟩), .pointer (some ⟨b5, 0, none⟩), .pointer (some ⟨b2, 0, none⟩), undef, undef, undef, undef, undef, undef, undef] := by rw [← h0]; rfl
   have k0 : q0.defers = [] := by rw [← h0]
   clear h0
   refine wpIn_seq (wpIn_region_list (zbm rfl ?_))
   refine zpg rfl (zux hP.te (b := b4) (v := .int .i64 z) (E := 33) (by rw [g0]; rfl) (M8.cget (by simp))) ?_
   have g1 := zav (d := some 3) (v := .int .i64 z) g0
   have k1 : (q0.put (some 3) (.int .i64 z)).defers = [] := by rw [zaj, k0]
   generalize q0.put (some 3) (.int .i64 z) = q1 at g1 k1 ⊢
   refine zbm rfl ?_
   obtain ⟨vd, hvd, hrd⟩ := zjh (P := P) (op := .neq) (T := 33) (x := .tmp 3) (y := .const (.int .i64 0)) (a := .int .i64 z) (b := .int .i64 0) (K := fun v => v = .bool (z != 0)) rfl
   subst hvd
   refine zpg (v := .bool (z != 0)) rfl ?_ ?_
   · have e1 : ev q1.tmps.toList (.tmp 3) = .int .i64 z := by rw [g1]; rfl
     have e2 : ev q1.tmps.toList (.const (.int .i64 0)) = .int .i64 0 := rfl
     simp only [execOp, e1, e2]
     rw [Sem.run_bind, hrd]
     rfl
   have g2 := zav (d := some 4) (v := .bool (z != 0)) g1
   have k2 : (q1.put (some 4) (.bool (z != 0))).defers = [] := by rw [zaj, k1]
   generalize q1.put (some 4) (.bool (z != 0)) = q2 at g2 k2 ⊢
   refine zj5 ?_
   cases hz : (z != 0) with
   | false =>
     rw [hz] at hk3 g2
     refine wpIn_cond_false (by rw [zbb, g2]; rfl) (wpIn_skip ?_)
     refine ⟨k2, .tuple #[], by simp [results], rfl, .refl _, D2, ρ2, m2, c2, n12, ?_, hk3⟩
     have := M8.cdrop
     exact (this.mono (.refl _) (this.st.perm (by simp only [zzs, zzd]; exact (zz2 _ _ _).append_left _))).cdrop
   | true =>
     rw [hz] at hk3 g2
     simp only [cond_true] at hk3
     refine wpIn_cond_true (by rw [zbb, g2]; rfl) ?_
     show (Code.region _ (zce zej) true).wpIn _ _ _ _ _ _
     have hl2 := M8.len
     have hp9 : RpC D2 (ρ2 ++ [⟨b5, none, 0, 0, none⟩]) [.pointer (some p9)] [x1] := .cons (n2.rp hx1 |>.mono (.refl _) (s := [_])) (isPtr_n hp1) .nil
     have M9 := M8.push (L := ⟨b5, none, 0, 0, none⟩) (ab := .c [x1]) (.c hp9)
     have M10 : SAt D2 (ρ2 ++ [⟨b5, none, 0, 0, none⟩]) (m2 ++ [.c [x1]]) (c2 ++ [[(b5, .cells [.pointer (some p9)].toArray 25 (0, 0))]]) ([(b2, .cells [vB].toArray 25 (0, 0))] :: [(b4, .cells #[.int .i64 z] 33 (0, 0))] :: C) w7.heap :=
      M9.mono (.refl _) (M9.st.perm (by simp only [zzs, zzd]; exact (zz2 _ _ _).append_left _))
     have hLb : (ρ2 ++ [⟨b5, none, 0, 0, none⟩] ++ [⟨b2, none, 0, 0, none⟩])[b]? = some L := by
      obtain ⟨s', rfl⟩ := n12.pre
      rw [zy8, zy8, zy7 (zyz.1 hL).1]
      exact hL
     have M11 := M10.push (L := ⟨b2, none, 0, 0, none⟩) (ab := .c [.r b o]) (.c (.cons (by rw [← hB]; exact .r hLb) (fun _ _ _ h => nomatch h) .nil))
     have n5 : Nx ro hr D2 ρ2 m2 c2 D2 (ρ2 ++ [⟨b5, none, 0, 0, none⟩] ++ [⟨b2, none, 0, 0, none⟩]) (m2 ++ [.c [x1]] ++ [.c [.r b o]]) (c2 ++ [[(b5, .cells [.pointer (some p9)].toArray 25 (0, 0))]] ++ [[(b2, .cells [vB].toArray 25 (0, 0))]]) := (Nx.push M6 (s := [⟨b5, none, 0, 0, none⟩] ++ [⟨b2, none, 0, 0, none⟩]) (a := [.c [x1]] ++ [.c [.r b o]]) (c := [[(b5, .cells [.pointer (some p9)].toArray 25 (0, 0))]] ++ [[(b2, .cells [vB].toArray 25 (0, 0))]]) (.refl _)) |> (by simpa only [zy8] using ·)
     have F5 : RpL D2 (ρ2 ++ [⟨b5, none, 0, 0, none⟩] ++ [⟨b2, none, 0, 0, none⟩]) q2.tmps.toList [.z, .r m2.length 0, .r (m2.length + 1) 0, .i z, .u (.b true), .z, .z, .z, .z, .z] := by
      rw [g2]
      refine .cons .z (.cons (.r (L := ⟨b5, none, 0, 0, none⟩) (by rw [← hl2]; simp)) (.cons (.r (L := ⟨b2, none, 0, 0, none⟩) (by rw [← hl2]; simp)) (.cons (.u (.int _ _)) (.cons (.u (.bool _)) (.cons .z (.cons .z (.cons .z (.cons .z (.cons .z .nil)))))))))
     refine wpIn_region_any hmix ?_
     let QQ : Exit → Act → World → Prop := fun e a' w' => e = .normal ∧ UpS (zcc zej) q2.tmps.toList w7 ro hr D2 (ρ2 ++ [⟨b5, none, 0, 0, none⟩] ++ [⟨b2, none, 0, 0, none⟩]) (m2 ++ [.c [x1]] ++ [.c [.r b o]]) (c2 ++ [[(b5, .cells [.pointer (some p9)].toArray 25 (0, 0))]] ++ [[(b2, .cells [vB].toArray 25 (0, 0))]]) ([(b4, .cells #[.int .i64 z] 33 (0, 0))] :: C) (fun _ m3 => KS (.u (.i .i64 z)) m3) a' w'
     have key := draw_S (P := P) (vw := false) (X := fun _ _ => True) (fun _ _ _ => trivial) (hr := hr) (ro := ro) (md := zcc zej) (Q := QQ) (call := zww) (fun hx {g} {args} {m} {KS} {D} {ρ} {chs} {C} {h} {vs} _ hh => hh.elim) (ops := (zce zej).toList) (by kernel_rfl) (fun _ _ _ h => by cases h.1) (fun _ _ h => by cases h.1) backMx (zce zej).toList.length [] [] [] (Array.replicate (zce zej).toList.length false) q2
      { w7 with drawn := w7.drawn + 1 } _ D2 _ _ _ (by rw [zy8]; exact zss _ _ _ _ _ ▸ hk3) (by kernel_rfl) ⟨by simp, fun k hk => by rw [zv3 true hk]; simp, fun k hk => by simp at hk⟩ (fun j oj hj hl => by rw [zrl] at hl; cases hl)
      k2 trivial M11 F5 (by intro c hc; simp at hc) (fun a' w' hU => ⟨rfl, hU.df, ⟨hU.sm.tape, hU.sm.os, hU.sm.output, Nat.le_trans (z0i _) hU.sm.drawn⟩, hU.ag, hU.ex⟩)
     have h1 := zo4 _ _ _ _ _ key
     have h2 := zoz (r := none) (n := 0) (ds := []) backD (fun ⟨_, _, h⟩ => by cases h.1) _ _ _ _ h1
     have h3 := zoy (Qb := bodyPost P Tryz.f289 (fun e w' => e = .returned (.tuple #[]) ∧ Same w7 w' ∧ ∃ D' ρ' m' chs', Nx ro hr D ρ m chs D' ρ' m' chs' ∧ SAt D' ρ' m' chs' ([(b4, .cells #[.int .i64 z] 33 (0, 0))] :: C) w'.heap ∧ KS (.u (.i .i64 z)) m')) (fun e a1 w1 hq => by
      obtain ⟨a0, ⟨rfl, hU⟩, rfl⟩ := hq
      obtain ⟨D', ρ', m', c', t', n', M', F', k⟩ := hU.ex
      exact ⟨by rw [hU.df]; rfl, .tuple #[], by simp [results], rfl, hU.sm, D', ρ', m', c', n12.trans (n5.trans n'), M', k⟩) _ _ _ _ h2
     have e : ({ q2 with defers := q2.defers ++ [] } : Act) = q2 := by rw [zzw]
     rw [e] at h3
     simpa using h3
 · rintro e u' w' ⟨rfl, rfl, sw, D3, ρ3, m3, c3, n3, M9, hk⟩
   have hb4 := M9.cget (b := b4) (o := .cells #[.int .i64 z] 33 (0, 0)) (by simp)
   obtain ⟨v, hv, hr'⟩ := zpw (P := P) (fn := Tryz.f190) (tmps := a13.tmps) rfl (h := w'.heap) (R := fun v _ => v = .int .i64 z) (by
    rw [f13]
    show zw5 P 33 (some ⟨b4, 0, none⟩) w'.heap _
    unfold zw5
    rw [hP.te]
    exact ⟨_, by rw [zaz hb4]; rfl, rfl⟩)
   subst hv
   refine ⟨_, hr' w' rfl, _, rfl, ⟨D3, ρ3, m3, c3, .u (.i .i64 z), n3, M9.cdrop, .u (by constructor), hk⟩, ss.trans sw⟩
theorem mixHg : Tryz.prog.follows .mixedOrders = true := by kernel_rfl
noncomputable def spWhX (hmix : P.follows .mixedOrders = true) (hP : WhP P) : SP P where  -- 190
 f := zuv P
 ok := by
  intro ro hr X call hX hcall g args m KS p hs hp D ρ chs C h vs xx M ha
  unfold zuv at hs
  cases hb : zyw g 190 with
  | false => rw [hb] at hs; cases hs
  | true =>
    rw [hb] at hs
    have := zy1 hb
    subst this
    simp only [cond_true] at hs
    split at hs
    · simp only [Option.some.injEq] at hs
      subst hs
      exact wholeX_S hmix hP hX hcall M.len.symm hp xx M ha
    · simp only [Option.some.injEq] at hs
      subst hs
      exact hp.elim
end
section
set_option maxRecDepth 100000
theorem mixTn2 : Tryz.prog.follows .mixedOrders = true := by kernel_rfl
theorem S87 {g : List (List U)} {b : List Int} {m o k : Int} (hh : PRun Tryz.prog 189 [] [.i j, .i k] (post q10 [] (fun l e => (bif e != 0 then Q (.i e) (q15 a b) else PRun Tryz.prog 192 (q15 a b) [.r 0 0, q16 m n f o, .l 2 g] (post q7 q3 (fun c h i => (bif c != 0 then bif c != 0 then (Q (.i c) (q15 a b)) else (Q (.i c) (q15 h i)) else PRun Tryz.prog 194 [] [.i l, .i f] (post [.agg [.i .i64, .i .i64, .i .i64, .i .i64]] [] (fun p q r s => (PRun Tryz.prog 193 (q15 h i) [.r 0 0, q16 p q r s, .l 2 g] (post q7 q3 (fun d t u => (bif d != 0 then (Q (.i d) (q15 a b)) else (Q (.i d) (q15 t u)) : Prop))) : Prop))) : Prop))) : Prop)))) : PRun Tryz.prog 87 (q15 a b) [.r 0 0, q16 m n f o, .i j, .i k, .l 2 g] Q :=
 zad mixTn2 Tryz.func87 (by kernel_rfl) (H := ⟨[], [], [191, 215], [], [], false, 64, KN.no, false, (spWhX mixHg whp)⟩) (n := 3) (by kernel_rfl) hh
end
section
set_option maxRecDepth 1000000
variable {Q : V → Mem → Prop}
def zie (x : K4) : List Stk → Tb → Tb
 | [], l => l
 | s :: r, l => zie x r (zez (bin x s.1) (zam (bin x s.1) l + s.2) l)
def zjn (d : Int) : List Stk → Int
 | [] => 0
 | s :: r => (if s.1 = d then s.2 else 0) + zjn d r
theorem zh5 {d : Int} : ∀ {L : List Stk}, (∀ s ∈ L, 0 ≤ s.2) → 0 ≤ zjn d L
 | [], _ => zzk _
 | s :: r, h => by
   have h1 := h s zzq
   have h2 := zh5 (d := d) (L := r) fun t ht => h t (zzo _ ht)
   simp only [zjn]; split <;> omega
structure PutI (x : K4) (N : Nat) (g : Tb) (r : List Stk) (lt : Tb) : Prop where
 inv : BInv lt
 len : lt.length + r.length ≤ N
 ok : ∀ s ∈ r, 1 ≤ s.1 ∧ s.1 ≤ 32 ∧ 1 ≤ s.2
 top : ∀ d, tyQ d lt + zjn d r ≤ 1125899906842624
 go : zie x r lt = g
theorem PutI.step {N : Nat} {g lt : Tb} {q : Stk} {r : List Stk} (h : PutI x N g (q :: r) lt) (hx : isB (bin x 1) = true) : PutI x N g r (zez (bin x q.1) (zam (bin x q.1) lt + q.2) lt) := by
 have hq := h.ok q zzq
 have hb := zgq hx ⟨hq.1, hq.2.1⟩
 have hr : ∀ s ∈ r, 0 ≤ s.2 := fun s hs => by have := h.ok s (zzo _ hs); omega
 have htop := h.top q.1
 simp only [zjn, if_true] at htop
 have hnn := zh5 (d := q.1) hr
 refine ⟨h.inv.set (n := q.2) hb (by have := (h.inv.val (bin x q.1)).1; omega) (by simp only; omega), ?_, fun s hs => h.ok s (zzo _ hs), fun d => ?_, h.go⟩
 · have := zhr (k := bin x q.1) (v := zam (bin x q.1) lt + q.2) (l := lt)
   have := h.len
   simp only [zzg] at this
   omega
 · have ht := h.top d
   simp only [zjn] at ht
   unfold tyQ at ht ⊢
   rw [zd2 h.inv.srt]
   by_cases e : q.1 = d
   · rw [if_pos e] at ht
     simp only [bin, e, beq_self_eq_true, if_true]
     simp only [e] at *
     omega
   · rw [if_neg e] at ht
     have : ((bin x q.1).d == d) = false := by simpa [bin] using e
     rw [this]
     simp only [z0x, if_false]
     omega
theorem PutI.put {N : Nat} {g lt : Tb} {q : Stk} {r : List Stk} (h : PutI x N g (q :: r) lt) (hx : isB (bin x 1) = true) (hN : N ≤ 900000) (K : Q (.i 0) [bK (zez (bin x q.1) (zam (bin x q.1) lt + q.2) lt)]) :
 PRun Tryz.prog 205 [bK lt] [.r 0 0, kV (bin x q.1), .i q.2] Q := by
 have hq := h.ok q zzq
 have hb := zgq hx ⟨hq.1, hq.2.1⟩
 have hr : ∀ s ∈ r, 0 ≤ s.2 := fun s hs => by have := h.ok s (zzo _ hs); omega
 have htop := h.top q.1
 simp only [zjn, if_true] at htop
 have hnn := zh5 (d := q.1) hr
 have hl := h.len
 refine put_B h.inv (by omega) (fun hc => ?_) (fun _ _ hc => ?_) fun _ _ _ => K
 · rcases hc with hc | hc
   · rw [hb] at hc; cases hc
   · omega
 · simp only at hc; omega
theorem zj4 {f : K4 → Bool} {p : K4 → Bool} : ∀ (l : Tb), zd3 f (l.filter fun r => p r.1) + zd3 f (l.filter fun r => !p r.1) = zd3 f l
 | [] => rfl
 | r :: l => by
   have ih := zj4 (f := f) (p := p) l
   by_cases hp : p r.1
   · rw [z1w (p := fun r : K4 × Int => p r.1) hp, z06 (p := fun r : K4 × Int => !p r.1) (by simp [hp])]
     simp only [zd3]; omega
   · rw [z06 (p := fun r : K4 × Int => p r.1) hp, z1w (p := fun r : K4 × Int => !p r.1) (by simp [hp])]
     simp only [zd3]; omega
theorem zrd (d : Int) : ∀ l : Tb, zjn d (l.map fun r => (r.1.d, r.2)) = tyQ d l
 | [] => rfl
 | r :: l => by
   have := zrd d l
   unfold tyQ at *
   simp only [zzj, zjn, zd3, this]
   by_cases e : r.1.d = d
   · rw [if_pos e, if_pos (by simpa using e)]
   · rw [if_neg e, if_neg (by simpa using e)]
theorem zpi (x : K4) (l : Tb) (d : Int) : tyQ d (rmv x l) + zjn d (zg6 x l) = tyQ d l := by
 unfold zg6
 rw [zrd]
 unfold tyQ rmv
 have := zj4 (f := fun k => k.d == d) (p := zhm x) l
 omega
theorem zrr {to : K4} (h : BInv l) : PutI to l.length (zie to (zg6 x l) (rmv x l)) (zg6 x l) (rmv x l) where
 inv := h.rmv x
 len := by
  unfold rmv zg6
  rw [zy2]
  have hl : ∀ m : Tb, (m.filter fun r => !zhm x r.1).length + (m.filter fun r => zhm x r.1).length ≤ m.length := by
   intro m
   induction m with
   | nil => exact zy9 _
   | cons r m ih =>
     simp only [List.filter_cons, zzg]
     cases zhm x r.1 <;> simp <;> omega
  exact hl l
 ok s hs := by
  have hk := h.key _ (zlz hs)
  have hd := zqh hk.1
  exact ⟨hd.1, hd.2, hk.2⟩
 top d := by rw [zpi]; exact h.top d
 go := rfl
theorem zrq {x : K4} {N : Nat} {g : Tb} (hx : isB (bin x 1) = true) : ∀ {r : List Stk} {lt : Tb}, PutI x N g r lt → BInv g ∧ g.length ≤ N
 | [], lt, h => by
   have e : lt = g := h.go
   subst e
   exact ⟨h.inv, by have := h.len; simpa using this⟩
 | q :: r, lt, h => zrq hx (h.step hx)
theorem zv6 {place : Int} {to : K4} (h : BInv l) (hl : l.length ≤ 900000) (hid : 1 ≤ id ∧ id < 1048576) (hp : 1 ≤ place ∧ place ≤ 8) (hto : to.c = place) (hx : isB (bin to 1) = true)
 (K : Q (.i 0) [bK (zie to (zg6 (vK id place) l) (rmv (vK id place) l))]) : PRun Tryz.prog 109 [bK l] [.r 0 0, .i 1, .i id, .i place, kV to] Q := by
 refine S109 (cNe (fun hc => absurd hto hc) fun _ => ?_)
 refine put_B (k := bin to 1) h (by omega) (fun hb => ?_) (fun _ _ hb => ?_) fun _ _ _ => ?_
 · rcases hb with hb | hb
   · rw [hx] at hb; cases hb
   · omega
 · have := h.top (bin to 1).d; omega
 show (bif ((0 : Int) != 0) then Q (.i 1) [bK l] else PRun _ _ _ _ _ : Prop)
 refine cNe (fun h => absurd rfl h) fun _ => zos h hl hid hp ?_
 have P0 := zrr (x := vK id place) (to := to) h
 have hno : (zg6 (vK id place) l).length ≤ l.length := by unfold zg6; rw [zy2]; exact z0b _ _
 show (∃ (I1 : Int → List (List U) → List Int → Int → Int → Int → Int → Prop) (f1 : Int → List (List U) → List Int → Int → Int → Int → Int → Nat), _)
 refine ⟨fun x l' a' x4 x5 x6 x7 => SufI (zg6 (vK id place) l) (fun r => ∃ lt, lt.map eT = l' ∧ zfl lt = a' ∧ to.a = x4 ∧ to.b = x5 ∧ to.c = x6 ∧ PutI to l.length (zie to (zg6 (vK id place) l) (rmv (vK id place) l)) r lt) x, fun x _ _ _ _ _ _ => zq1 (zg6 (vK id place) l) x, .zero (by omega) ⟨_, rfl, rfl, rfl, rfl, rfl, P0⟩, ?_⟩
 rintro x _ _ _ _ _ x7 ⟨r, s, lt, rfl, rfl, rfl, rfl, rfl, hP⟩
 cases r with
 | nil =>
   rw [s.d0, cond_false]
   have e : lt = zie to (zg6 (vK id place) l) (rmv (vK id place) l) := hP.go
   rw [← e] at K
   exact K
 | cons q r =>
   simp only [s.d1, s.el, eS, ug0, ugs, zbs, cond_true]
   exact hP.put hx (by omega) (s.step ⟨_, by first | trivial | rfl, by first | trivial | rfl, by first | trivial | rfl, by first | trivial | rfl, by first | trivial | rfl, hP.step hx⟩)
theorem zh4 {x : K4} : ∀ {L : List Stk} {l : Tb}, Srt l → (L.Pairwise fun a b => a.1 < b.1) → (∀ s ∈ L, s.2 ≤ zam (bin x s.1) l) → ∃ l', zb5 x L l = some l' ∧ (∀ k, zam k l' = if zhm x k then zam k l - zjn k.d L else zam k l) ∧ ∀ d, tyQ d l' = tyQ d l - zjn d L
 | [], l, _, _, _ => ⟨l, rfl, fun k => by simp [zjn], fun d => by simp [zjn]⟩
 | q :: r, l, hs, hpw, h => by
   have hq := h q zzq
   have hpw2 := zz5.1 hpw
   obtain ⟨l', h1, h2, h3⟩ := zh4 (x := x) (L := r) (l := zez (bin x q.1) (zam (bin x q.1) l + -q.2) l) (zhq hs) hpw2.2 fun s hs' => by
    rw [zmi _ hs, if_neg fun e => ?_]
    · exact h s (zzo _ hs')
    · have := hpw2.1 s hs'
      have e' : s.1 = q.1 := congrArg K4.d e
      omega
   refine ⟨l', by simp only [zb5]; rw [if_pos hq]; exact h1, fun k => ?_, fun d => ?_⟩
   · rw [h2, zmi _ hs]
     simp only [zjn]
     by_cases hk : zhm x k = true
     · rw [if_pos hk, if_pos hk]
       by_cases e : q.1 = k.d
       · rw [if_pos e, if_pos (by rw [inDv_iff.1 hk, e]), inDv_iff.1 hk, e]; simp only [bin]; omega
       · rw [if_neg e, if_neg (fun e2 => e (by rw [e2])), z26]
     · rw [if_neg hk, if_neg hk, if_neg (fun e => hk (by rw [e]; exact inDv_iff.2 rfl))]
   · rw [h3]
     simp only [zjn]
     unfold tyQ
     rw [zd2 hs]
     by_cases e : q.1 = d
     · rw [if_pos e, if_pos (by simpa [bin] using e)]; omega
     · rw [if_neg e, if_neg (by simpa [bin] using e)]; omega
theorem zrp {x : K4} : ∀ {L : List Stk} {l : Tb}, BInv l → isB (bin x 1) = true → (∀ s ∈ L, 1 ≤ s.1 ∧ s.1 ≤ 32 ∧ 1 ≤ s.2) → (∀ d, tyQ d l + zjn d L ≤ 1125899906842624) → zjq x L l = some (zie x L l)
 | [], l, _, _, _, _ => rfl
 | q :: r, l, hi, hx, hok, h => by
   have P0 : PutI x (l.length + (q :: r).length) (zie x (q :: r) l) (q :: r) l := ⟨hi, zy9 _, hok, h, rfl⟩
   have P1 := P0.step hx
   simp only [zjq]
   have hq := h q.1
   simp only [zjn, if_true] at hq
   have hnn := zh5 (d := q.1) (L := r) fun s hs => by have := hok s (zzo _ hs); omega
   rw [if_pos (by omega)]
   exact zrp P1.inv hx P1.ok P1.top
theorem zjb (h : zfe L types = 0) : L.Pairwise fun a b => a.1 < b.1 := by
 have h1 : zow types 0 L = true := by
  unfold zfe at h
  split at h
  · rename_i hh; exact hh.1
  · cases h
 have : ∀ (l : List Stk) (last : Int), zow types last l = true → (∀ s ∈ l, last < s.1) ∧ l.Pairwise fun a b => a.1 < b.1 := by
  intro l
  induction l with
  | nil => intro _ _; exact ⟨fun s hs => by simp at hs, .nil⟩
  | cons a l ih =>
    intro last hc
    simp only [zow, zyy, decide_eq_true_eq] at hc
    obtain ⟨i1, i2⟩ := ih a.1 hc.2
    refine ⟨fun s hs => ?_, zz5.2 ⟨i1, i2⟩⟩
    rcases zy3.1 hs with rfl | hs
    · omega
    · have := i1 s hs; omega
 exact (this L 0 h1).2
theorem zds {F : Int → List (List U) → List Int → Prop} {e : Int} {r : List (List U)} {a : List Int} : post [.I] [.c [.l 5, .n 33]] F (.i e) [.c [.l 5 r, .n .i64 33 a]] = F e r a := rfl
theorem lock_B {fr : K4} (h : BInv l) (hl : l.length ≤ 800000) (hid : 1 ≤ id ∧ id < 1048576) (hL : L.length ≤ 1000) (hx : isB (bin fr 1) = true) (hc : zfe L 32 = 0) (hlie : ∀ s ∈ L, s.2 ≤ zam (bin fr s.1) l)
 (K : ∀ l1, zb5 fr L l = some l1 → BInv l1 → BInv (zie (vK id fr.c) L l1) → (zie (vK id fr.c) L l1).length ≤ l.length + 2 * L.length → Q (.i 0) [bK (zie (vK id fr.c) L l1)]) : PRun Tryz.prog 87 [bK l] [.r 0 0, kV fr, .i 1, .i id, .l 2 (L.map eS)] Q := by
 obtain ⟨l1, ht, hval, hty⟩ := zh4 h.srt (zjb hc) hlie
 have hm := zmg hc
 refine S87 (zp2 hid ?_)
 rw [zb1]
 refine cNe (fun h => absurd rfl h) fun _ => zni h (by omega) hL (fun hb => ?_) (fun _ _ hb => ?_) fun l' _ _ hb hi hln => ?_
 · rcases hb with hb | hb
   · rw [hx] at hb; cases hb
   · exact absurd hc hb
 · rw [ht] at hb; cases hb
 rw [ht] at hb
 cases hb
 rw [zds]
 refine cNe (fun h => absurd rfl h) fun _ => at_S ?_
 show PRun _ _ _ _ _
 have hxv : isB (bin (vK id fr.c) 1) = true := by
  simp only [isB, zyy, decide_eq_true_eq] at hx ⊢
  unfold vO
  omega
 have hput := zrp (x := vK id fr.c) (L := L) hi hxv (fun s hs => by have := hm s hs; omega) fun d => by rw [hty]; have := h.top d; omega
 refine putAll_B (x := vK id fr.c) hi (by omega) hL (fun hb => ?_) (fun _ _ hb => ?_) fun l2 _ _ hb hi2 hln2 => ?_
 · rcases hb with hb | hb
   · rw [hxv] at hb; cases hb
   · exact absurd hc hb
 · rw [hput] at hb; cases hb
 rw [hput] at hb
 cases hb
 rw [zds]
 exact cNe (fun h => absurd rfl h) fun _ => K l1 ht hi hi2 (by omega)
end
end Go.Proofs.YtacglpinmpncaaaGreat
