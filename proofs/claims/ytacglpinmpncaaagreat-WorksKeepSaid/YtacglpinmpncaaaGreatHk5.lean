/- What the functions do, written by program (psv.py) and held against the program by the kernel. -/
import Derived.Test.YtacglpinmpncaaaGreatHk4
import Derived.Test.YtacglpinmpncaaaGreatProg
import Derived.RecoverIn
set_option linter.unusedVariables false
namespace Go.Proofs.YtacglpinmpncaaaGreat
variable {next : Act → World → Prop} {after : Array Edge} {a b d f g h i j n p t types v : Int} {k x : K4} {c e o q : List (List U)} {m : List (MK × List U)} {L : List Stk} {vs : List Value} {guard : Option (Nat × Bool)} {r : Option Nat} {dst : Option Tmp} {P : Program} {pos : String} {l : Tb} {E ty : TypeId} {Q : V → Mem → Prop} {w : World}
open _root_.Bool renaming and_assoc → z3a, and_eq_false_iff → z16, and_eq_true → zy9, and_true → z2a, not_eq_true' → zz5, not_true → z0p, or_eq_false_iff → z2q
open _root_.Int renaming eq_ofNat_of_zero_le → z1f, fdiv_eq_ediv_of_nonneg → z3g, le_refl → zzw, toNat → zy8, toNat_natCast → zzs
open _root_.Go.IntKind renaming wrap → zy5, wrap_u64 → z29
open _root_.List renaming all_eq_true → z0o, append_assoc → zzj, append_nil → zz7, cons_append → z0g, drop_drop → z1j, drop_eq_nil_of_le → z05, drop_zero → z1k, eq_nil_of_length_eq_zero → z0v, ext_getElem? → z1l, filter_cons_of_neg → z1h, filter_cons_of_pos → z17, filter_eq_nil_iff → z3u, filter_eq_self → z2k, find?_eq_none → z2p, find?_some → z21, flatten_append → zz4, flatten_cons → zzp, flatten_nil → z2t, getD_eq_getElem?_getD → z1i, getElem?_append_left → zzi, getElem?_append_right → zzz, getElem?_eq_getElem → zzb, getElem?_eq_none → z0z, getElem?_eq_some_iff → zza, getElem?_map → zzg, getElem?_set_ne → zz0, getElem?_set_self → z0f, length → zy6, length_append → zzx, length_cons → zzr, length_drop → z1w, length_filter_le → z0n, length_map → zzc, length_nil → z1a, length_set → z0b, length_take → zz9, map → zzq, map_append → zz2, map_cons → zzv, map_drop → z1s, map_nil → z1m, map_take → z1e, mem_append → zzh, mem_cons → zze, mem_cons_of_mem → zzy, mem_cons_self → zz1, mem_filter → z0r, mem_iff_getElem? → z0e, mem_map → zz6, mem_of_find?_eq_some → z20, mem_of_getElem? → zzf, mem_of_mem_drop → z14, mem_of_mem_take → z13, mem_range → z1o, mem_singleton → z03, mem_singleton_self → zz8, nil_append → z0i, pairwise_cons → z0h, pairwise_map → z19, perm_append_comm_assoc → z0d, range → zzt, replicate → zzu, set → zzm, take_add_one → z1g, take_append_drop → z0t, take_length → z0m, take_of_length_le → z06, take_sublist → z3t, take_succ_eq_append_getElem → z18
open _root_.Nat renaming beq → zy7, eq_of_beq_eq_true → zzd, le_refl → zzk, le_succ → z0u, lt_or_ge → z01, zero_add → zzo, zero_le → zz3
open _root_.Option renaming getD_some → z0j, isSome_iff_exists → z2x, map_eq_some_iff → z0q
def zd4 (f : K4 → Bool) : Tb → Int
 | [] => 0
 | r :: l => (if f r.1 then r.2 else 0) + zd4 f l
theorem tget_low {r : K4 × Int} (hs : Srt (r :: l)) (h : ¬ r.1.lt k) (e : ¬ r.1 = k) : zau k l = none := by
 rcases K4.tri r.1 k with h1 | h1 | h1
 · exact absurd h1 h
 · exact absurd h1 e
 · exact zdf fun s hs' => h1.trans (hs.head s hs')
theorem zk1 {f : K4 → Bool} {k : K4} {v : Int} : ∀ {l : Tb}, Srt l → zd4 f (zde k v l) = zd4 f l + (if f k then v - zan k l else 0)
 | [], _ => by simp [zde, zd4, zan, zau]
 | r :: l, hs => by
   simp only [zde]
   by_cases h : r.1.lt k
   · have e : ¬ r.1 = k := fun e => K4.irr k (by rwa [e] at h)
     rw [if_pos h]
     simp only [zd4, zan, zau, if_neg e]
     rw [zk1 hs.tail]
     simp only [zan]
     omega
   · rw [if_neg h]
     by_cases e : r.1 = k
     · rw [if_pos e]
       simp only [zd4, zan, zau, e, if_true, z0j]
       split <;> omega
     · rw [if_neg e]
       simp only [zd4, zan, zau, if_neg e, tget_low hs h e, Option.getD_none]
       split <;> omega
theorem zrb {f : K4 → Bool} {k : K4} : ∀ {l : Tb}, Srt l → zd4 f (zj7 k l) = zd4 f l - (if f k then zan k l else 0)
 | [], _ => by simp [zj7, zd4, zan, zau]
 | r :: l, hs => by
   simp only [zj7]
   by_cases e : r.1 = k
   · rw [if_pos e]
     simp only [zd4, zan, zau, e, if_true, z0j]
     split <;> omega
   · rw [if_neg e]
     simp only [zd4, zan, zau, if_neg e]
     rw [zrb hs.tail]
     simp only [zan]
     omega
theorem zd3 {f : K4 → Bool} (hs : Srt l) : zd4 f (ze1 k v l) = zd4 f l + (if f k then v - zan k l else 0) := by
 unfold ze1
 split
 · rename_i h
   subst h
   rw [zrb hs]
   split <;> omega
 · exact zk1 hs
theorem zhu (hs : Srt l) : Srt (ze1 k v l) := by
 unfold ze1
 split
 · exact zri hs
 · exact zhi hs
theorem bset_get (j : K4) (hs : Srt l) : zau j (ze1 k v l) = if j = k then (if v = 0 then none else some v) else zau j l := by
 unfold ze1
 split
 · exact zlx j hs
 · exact zlt j hs
theorem zna (j : K4) (hs : Srt l) : zan j (ze1 k v l) = if j = k then v else zan j l := by
 unfold zan
 rw [bset_get j hs]
 by_cases h : j = k
 · rw [if_pos h, if_pos h]
   split
   · rename_i h2; rw [h2]; rfl
   · rfl
 · rw [if_neg h, if_neg h]
theorem bset_mem {r : K4 × Int} (h : r ∈ ze1 k v l) : (r = (k, v) ∧ v ≠ 0) ∨ r ∈ l := by
 unfold ze1 at h
 split at h
 · exact .inr (zlv h)
 · rename_i hv
   exact (zhj h).imp (fun e => ⟨e, hv⟩) id
theorem zls {k : K4} {v : Int} : ∀ {l : Tb}, (zde k v l).length ≤ l.length + 1
 | [] => by simp [zde]
 | r :: l => by
   have := zls (k := k) (v := v) (l := l)
   simp only [zde]
   split
   · simp only [zzr]; omega
   · split <;> simp
theorem zlw {k : K4} : ∀ {l : Tb}, (zj7 k l).length ≤ l.length
 | [] => by simp [zj7]
 | r :: l => by
   have := zlw (k := k) (l := l)
   simp only [zj7]
   split <;> simp only [zzr] <;> omega
theorem zhv : (ze1 k v l).length ≤ l.length + 1 := by
 unfold ze1
 split
 · have := zlw (k := k) (l := l); omega
 · exact zls
theorem zk2 {f : K4 → Bool} : ∀ {l : Tb}, (∀ r ∈ l, 0 ≤ r.2) → 0 ≤ zd4 f l
 | [], _ => zzw _
 | r :: l, h => by
   have h1 := h r zz1
   have h2 := zk2 (f := f) (l := l) fun s hs => h s (zzy _ hs)
   simp only [zd4]
   split <;> omega
theorem znv {f : K4 → Bool} {k : K4} (hf : f k = true) : ∀ {l : Tb}, (∀ r ∈ l, 0 ≤ r.2) → 0 ≤ zan k l ∧ zan k l ≤ zd4 f l
 | [], _ => ⟨zzw _, zzw _⟩
 | r :: l, h => by
   have h1 := h r zz1
   have h3 := zk2 (f := f) (l := l) fun s hs => h s (zzy _ hs)
   have h2 := znv hf (l := l) fun s hs => h s (zzy _ hs)
   simp only [zan, zau, zd4] at *
   by_cases e : r.1 = k
   · rw [if_pos e, z0j, e, if_pos hf]; omega
   · rw [if_neg e]; split <;> omega
section
variable {Q : V → Mem → Prop}
def tyQ (d : Int) (l : Tb) : Int := zd4 (fun k => k.d == d) l
def zfl (l : Tb) : List Int := (zzt 33).map fun i : Nat => tyQ (i : Int) l
theorem zhk (l : Tb) : (zfl l).length = 33 := by simp [zfl]
theorem zdn (l : Tb) (h : 0 ≤ d ∧ d < 33) : (zfl l)[d.toNat]? = some (tyQ d l) := by
 obtain ⟨n, rfl⟩ := z1f h.1
 unfold zfl
 rw [show (n : Int).toNat = n from rfl, zzg, List.getElem?_range (by omega)]
 rfl
structure BInv (l : Tb) : Prop where
 srt : Srt l
 key : ∀ r ∈ l, isB r.1 = true ∧ 1 ≤ r.2
 top : ∀ d, tyQ d l ≤ 1125899906842624
theorem BInv.nn (h : BInv l) : ∀ r ∈ l, 0 ≤ r.2 := fun r hr => by have := (h.key r hr).2; omega
theorem BInv.val (h : BInv l) (k : K4) : 0 ≤ zan k l ∧ zan k l ≤ tyQ k.d l := znv (by simp) h.nn
theorem zqp (h : isB k = true) : 1 ≤ k.d ∧ k.d ≤ 32 := by
 simp only [isB, zy9, decide_eq_true_eq] at h; omega
theorem BInv.set (h : BInv l) (hk : isB k = true) (h0 : 0 ≤ zan k l + n) (ht : tyQ k.d l + n ≤ 1125899906842624) : BInv (ze1 k (zan k l + n) l) where
 srt := zhu h.srt
 key r hr := by
  rcases bset_mem hr with ⟨e, hv⟩ | e
  · subst e; exact ⟨hk, by show 1 ≤ zan k l + n; omega⟩
  · exact h.key r e
 top d := by
  unfold tyQ
  rw [zd3 h.srt]
  split
  · rename_i e
    simp only [beq_iff_eq] at e
    subst e
    have : zd4 (fun j => j.d == k.d) l = tyQ k.d l := rfl
    omega
  · have := h.top d; unfold tyQ at this; omega
theorem zrf (h : BInv l) (hk : isB k = true) (h0 : 0 ≤ tyQ k.d l + n) (ht : tyQ k.d l + n ≤ 1125899906842624) : aset (zfl l) k.d n = zfl (ze1 k (zan k l + n) l) := by
 have hd := zqp hk
 unfold aset
 rw [zdn l (by omega), z0j, w64 (by omega) (by omega)]
 apply z1l
 intro i
 by_cases hi : i < 33
 · have e2 : (zfl (ze1 k (zan k l + n) l))[i]? = some (tyQ (i : Int) (ze1 k (zan k l + n) l)) := zdn _ (d := (i : Int)) (by omega)
   rw [e2]
   unfold tyQ
   rw [zd3 h.srt]
   by_cases e : k.d.toNat = i
   · have e3 : k.d = (i : Int) := by omega
     rw [e, z0f (by rw [zhk]; omega), if_pos (by simp [e3]), e3]
     congr 1; omega
   · rw [zz0 e, if_neg (by simp; omega), Int.add_zero]
     exact zdn l (d := (i : Int)) (by omega)
 · rw [z0z (by rw [z0b, zhk]; omega), z0z (by rw [zhk]; omega)]
abbrev bK (l : Tb) : AB := bC l (zfl l)
theorem zy1 (h : BInv l) (hl : l.length ≤ 999999) (hk : isB k = true) (h0 : 0 ≤ zan k l + n) (h1 : 0 ≤ tyQ k.d l + n) (ht : tyQ k.d l + n ≤ 1125899906842624) (K : Q (.t []) [bK (ze1 k (zan k l + n) l)]) :
 PRun Tryz.prog 298 [bK l] [.r 0 0, kV k, .i n] Q := by
 have hd := zqp hk
 have hv := h.val k
 refine adds_B h.srt hl (zhk l) (by omega) ?_
 rw [zrf h hk h1 ht, w64 (by omega) (by omega)]
 exact K
theorem put_B (h : BInv l) (hl : l.length ≤ 999999) (k1 : isB k = false ∨ n < 0 → Q (.i 1) [bK l]) (k2 : isB k = true → 0 ≤ n → 1125899906842624 - tyQ k.d l < n → Q (.i 5) [bK l])
 (k3 : isB k = true → 0 ≤ n → tyQ k.d l + n ≤ 1125899906842624 → Q (.i 0) [bK (ze1 k (zan k l + n) l)]) : PRun Tryz.prog 205 [bK l] [.r 0 0, kV k, .i n] Q := by
 refine S205 (zxy ?_)
 rw [zbk]
 cases hk : isB k with
 | false => exact k1 (.inl hk)
 | true =>
   have hd := zqp hk
   have hv := h.val k
   have ht := h.top k.d
   refine cIf (fun h1 => k1 (.inr h1)) fun h1 => ⟨by omega, by omega, ?_⟩
   rw [zah (r := tyQ k.d l) (by omega) (zdn l (by omega)), w64 (by omega) (by omega)]
   exact cIf (fun h2 => k2 hk (by omega) (by omega)) fun h2 => zy1 h hl hk (by omega) (by omega) (by omega) (k3 hk (by omega) (by omega))
theorem take_B (h : BInv l) (hl : l.length ≤ 999999) (k1 : isB k = false ∨ n < 0 → Q (.i 1) [bK l]) (k2 : isB k = true → 0 ≤ n → zan k l < n → Q (.i 7) [bK l])
 (k3 : isB k = true → 0 ≤ n → n ≤ zan k l → Q (.i 0) [bK (ze1 k (zan k l + -n) l)]) : PRun Tryz.prog 291 [bK l] [.r 0 0, kV k, .i n] Q := by
 refine S291 (zxy ?_)
 rw [zbk]
 cases hk : isB k with
 | false => exact k1 (.inl hk)
 | true =>
   have hd := zqp hk
   have hv := h.val k
   have ht := h.top k.d
   refine cIf (fun h1 => k1 (.inr h1)) fun h1 => qty_S h.srt (by omega) ?_
   show (bif decide (n > zan k l) then _ else _ : Prop)
   refine cIf (fun h2 => k2 hk (by omega) (by omega)) fun h2 => ?_
   rw [w64 (by omega) (by omega), Int.zero_sub]
   exact zy1 h hl hk (by omega) (by omega) (by omega) (k3 hk (by omega) (by omega))
end
section
set_option maxRecDepth 100000
theorem zof : Tryz.prog.follows .mixedOrders = true := by kernel_rfl
theorem S168 (hh : ∃ (c : Int → Int → Prop) (f : Int → Int → Nat), c 0 0 ∧ (∀ d a : Int, c d a → (bif decide (a < (zy6 e : Int)) then elL e a (fun g => dI .i64 (ug g 0) (fun b => dI .i64 (ug g 1) (fun h => (bif decide (b ≤ d) then Q (.i 1) [] else (bif decide (b > i) then Q (.i 1) [] else (bif decide (h < 1) then Q (.i 1) [] else (bif decide (h > 1125899906842624) then Q (.i 1) [] else c b (zy5 .i64 (a + 1)) ∧ f b (zy5 .i64 (a + 1)) < f d a))))))) else (bif decide ((zy6 e : Int) > 8) then Q (.i 1) [] else Q (.i 0) [])))) : PRun Tryz.prog 168 [] [.l 2 e, .i i] Q :=
 zad zof Tryz.func168 (by kernel_rfl) (H := ⟨[((168, 3, 0), ⟨[(5, .I), (10, .I)], []⟩)], [], [], [], [], false, 64, KN.no, false, SP.no⟩) (n := 2) (by kernel_rfl) hh
theorem S115 {b : List (List U)} (hh : bif (zy6 b : Int) != (zy6 c : Int) then Q (.u (.b false)) [] else ∃ (d : Int → Prop) (e : Int → Nat), d 0 ∧ (∀ a : Int, d a → (bif decide (a < (zy6 b : Int)) then (bif decide (a < (zy6 c : Int)) then elL b a (fun f => dI .i64 (ug f 0) (fun h => dI .i64 (ug f 1) (fun i => elL c a (fun g => dI .i64 (ug g 0) (fun j => dI .i64 (ug g 1) (fun k => (bif !(h == j && (i == k && true)) then Q (.u (.b false)) [] else d (zy5 .i64 (a + 1)) ∧ e (zy5 .i64 (a + 1)) < e a))))))) else Q (.u (.b true)) []) else Q (.u (.b true)) []))) : PRun Tryz.prog 115 [] [.l 2 b, .l 2 c] Q :=
 zad zof Tryz.func115 (by kernel_rfl) (H := ⟨[((115, 4, 0), ⟨[(5, .I)], []⟩)], [], [], [], [], false, 64, KN.no, false, SP.no⟩) (n := 2) (by kernel_rfl) hh
theorem S286 {c : Int} {h : Bool} (hh : bif decide (c < 0) then Q (.t [.i 0, .i 1]) [] else (bif decide (d < 0) then Q (.t [.i 0, .i 1]) [] else (bif decide (b < 1) then Q (.t [.i 0, .i 1]) [] else PRun Tryz.prog 339 [] [.u (.i .u64 (zy5 .u64 c)), .u (.i .u64 (zy5 .u64 d))] (post [.one (.i .u64), .one (.i .u64)] [] (fun e f => (bif decide (e ≥ zy5 .u64 b) then Q (.t [.i 0, .i 5]) [] else PRun Tryz.prog 340 [] [.u (.i .u64 e), .u (.i .u64 f), .u (.i .u64 (zy5 .u64 b))] (post [.one (.i .u64), .one (.i .u64)] [] (fun a g => (bif h then (bif decide (g > 0) then (bif decide (a ≤ 9223372036854775807) then (bif decide (zy5 .u64 (a + 1) > 9223372036854775807) then Q (.t [.i 0, .i 5]) [] else Q (.t [.i (zy5 .i64 (zy5 .u64 (a + 1))), .i 0]) []) else (bif decide (a > 9223372036854775807) then Q (.t [.i 0, .i 5]) [] else Q (.t [.i (zy5 .i64 a), .i 0]) [])) else (bif decide (a > 9223372036854775807) then Q (.t [.i 0, .i 5]) [] else Q (.t [.i (zy5 .i64 a), .i 0]) [])) else (bif decide (a > 9223372036854775807) then Q (.t [.i 0, .i 5]) [] else Q (.t [.i (zy5 .i64 a), .i 0]) []) : Prop))) : Prop)))))) : PRun Tryz.prog 286 [] [.i c, .i d, .i b, .u (.b h)] Q :=
 zad zof Tryz.func286 (by kernel_rfl) (H := ⟨[], [], [], [], [], false, 64, KN.no, false, SP.no⟩) (n := 2) (by kernel_rfl) hh
theorem S285 {c e : Int} {d i : List (List U)} (hh : PRun Tryz.prog 270 [] [(q22 a b c d e f g), .i 32] (post q7 [] (fun h => (bif h == 0 then PRun Tryz.prog 332 [] [.l 3 i] (post [.B] [] (fun j => (Q (.u (.b j)) [] : Prop))) else Q (.u (.b false)) [] : Prop)))) : PRun Tryz.prog 285 [] [(q22 a b c d e f g), .l 3 i] Q :=
 zad zof Tryz.func285 (by kernel_rfl) (H := ⟨[], [], [], [], [], false, 64, KN.no, false, SP.no⟩) (n := 2) (by kernel_rfl) hh
theorem S184 {k l m o : Int} (hh : PRun Tryz.prog 285 [] [(q22 k l m e n o p), .l 3 [[.n h, .n 0, .n 10], [.n a, .n 1, .n 1000]]] (post [.B] [] (fun q => (bif !q then Q (.t [.l 2 [], .i 1]) [] else ∃ (f : List (List U) → Int → Prop) (i : List (List U) → Int → Nat), f [] 0 ∧ (∀ c : List (List U), ∀ d : Int, f c d → (bif decide (d < (zy6 e : Int)) then elL e d (fun j => dI .i64 (ug j 0) (fun g => dI .i64 (ug j 1) (fun r => PRun Tryz.prog 286 [] [.i r, .i (zy5 .i64 (a * zy5 .i64 (100 - h))), .i 100, .u (.b true)] (post q10 [] (fun b s => (bif s != 0 then Q (.t [.l 2 [], .i 5]) [] else (bif decide ((if a > b then a else b) > 1125899906842624) then Q (.t [.l 2 [], .i 5]) [] else zak c [[.n g, .n (if a > b then a else b)]] ∧ (f (c ++ [[.n g, .n (if a > b then a else b)]]) (zy5 .i64 (d + 1)) ∧ i (c ++ [[.n g, .n (if a > b then a else b)]]) (zy5 .i64 (d + 1)) < i c d)) : Prop)))))) else Q (.t [.l 2 c, .i 0]) [])) : Prop)))) : PRun Tryz.prog 184 [] [(q22 k l m e n o p), .i h, .i a] Q :=
 zad zof Tryz.func184 (by kernel_rfl) (H := ⟨[((184, 5, 2), ⟨[(8, .one (.ow 112 2)), (24, .I)], []⟩)], [], [], [], [], false, 64, KN.no, false, SP.no⟩) (n := 2) (by kernel_rfl) hh
theorem S185 {e c : Int} {f : List (List U)} (hh : PRun Tryz.prog 285 [] [(q22 d e a f g h i), .l 3 [[.n b, .n 0, .n 10], [.n c, .n 1, .n 1000]]] (post [.B] [] (fun j => (bif !j then Q (.t [.i 0, .i 1]) [] else PRun Tryz.prog 286 [] [.i (zy5 .i64 (a * c)), .i (zy5 .i64 (100 - zy5 .i64 (2 * b))), .i 100, .u (.b true)] (post q10 [] (fun k l => (Q (.t [.i k, .i l]) [] : Prop))) : Prop)))) : PRun Tryz.prog 185 [] [(q22 d e a f g h i), .i b, .i c] Q :=
 zad zof Tryz.func185 (by kernel_rfl) (H := ⟨[], [], [], [], [], false, 64, KN.no, false, SP.no⟩) (n := 2) (by kernel_rfl) hh
theorem S332 (hh : ∃ (b : Int → Prop) (d : Int → Nat), b 0 ∧ (∀ a : Int, b a → (bif decide (a < (zy6 e : Int)) then elL e a (fun c => dI .i64 (ug c 0) (fun f => dI .i64 (ug c 1) (fun g => dI .i64 (ug c 2) (fun h => (bif decide (f < g) then Q (.u (.b false)) [] else (bif decide (f > h) then Q (.u (.b false)) [] else b (zy5 .i64 (a + 1)) ∧ d (zy5 .i64 (a + 1)) < d a)))))) else Q (.u (.b true)) []))) : PRun Tryz.prog 332 [] [.l 3 e] Q :=
 zad zof Tryz.func332 (by kernel_rfl) (H := ⟨[((332, 2, 0), ⟨[(7, .I)], []⟩)], [], [], [], [], false, 64, KN.no, false, SP.no⟩) (n := 2) (by kernel_rfl) hh
theorem S270 {e : Int} (hh : PRun Tryz.prog 332 [] [.l 3 [[.n a, .n 0, .n 32], [.n b, .n 1, .n a], [.n d, .n 1, .n 1048576], [.n e, .n 1, .n 1048576], [.n f, .n 0, .n 1048576], [.n g, .n 0, .n 1048576], [.n h, .n 1, .n 1000]]] (post [.B] [] (fun i => (bif !i then Q (.i 1) [] else PRun Tryz.prog 168 [] [.l 2 c, .i a] (post q7 [] (fun j => (bif j != 0 then Q (.i 1) [] else PRun Tryz.prog 333 [] [.l 2 c, .i b] (post q7 [] (fun k => (bif decide (k > 0) then Q (.i 1) [] else Q (.i 0) [] : Prop))) : Prop))) : Prop)))) : PRun Tryz.prog 270 [] [(q22 b d e c f g h), .i a] Q :=
 zad zof Tryz.func270 (by kernel_rfl) (H := ⟨[], [], [], [], [], false, 64, KN.no, false, SP.no⟩) (n := 2) (by kernel_rfl) hh
end
section
variable {Q : V → Mem → Prop}
def eS (x : Stk) : List U := [.n x.1, .n x.2]
abbrev Bnd := Int × Int × Int
def eF (x : Bnd) : List U := [.n x.1, .n x.2.1, .n x.2.2]
def inn (n a b : Int) : Bool := decide (a ≤ n ∧ n ≤ b)
theorem zgu : inn n a b = true ↔ a ≤ n ∧ n ≤ b := by simp [inn]
def ze3 (l : List Bnd) : Bool := l.all fun x => inn x.1 x.2.1 x.2.2
theorem fits_S {L : List Bnd} (hL : L.length ≤ 1000000) (k : Q (.u (.b (ze3 L))) []) : PRun Tryz.prog 332 [] [.l 3 (L.map eF)] Q := by
 refine S332 ⟨SufI L fun l => Q (.u (.b (ze3 l))) [], zpl L, .zero (by omega) k, ?_⟩
 rintro x ⟨_ | ⟨a, l⟩, s, k⟩
 · rw [s.d0]; exact k
 · simp only [s.d1, s.el, eF, ug0, ugs, zbo, cond_true]
   rw [show ze3 (a :: l) = (inn a.1 a.2.1 a.2.2 && ze3 l) from rfl] at k
   refine cIf (fun h1 => ?_) fun h1 => cIf (fun h2 => ?_) fun h2 => s.step ?_
   iterate 2 rwa [show inn a.1 a.2.1 a.2.2 = false from decide_eq_false (by omega)] at k
   rwa [show inn a.1 a.2.1 a.2.2 = true from decide_eq_true (by omega)] at k
def zpd (types : Int) : Int → List Stk → Bool
 | _, [] => true
 | last, s :: l => decide (last < s.1 ∧ s.1 ≤ types ∧ 1 ≤ s.2 ∧ s.2 ≤ 1125899906842624) && zpd types s.1 l
def zfg (l : List Stk) (types : Int) : Int := if zpd types 0 l = true ∧ l.length ≤ 8 then 0 else 1
theorem zho (hL : L.length ≤ 1000000) (k : Q (.i (zfg L types)) []) : PRun Tryz.prog 168 [] [.l 2 (L.map eS), .i types] Q := by
 refine S168 ⟨fun last x => SufI L (fun l => zpd types 0 L = zpd types last l) x, fun _ => zpl L, .zero (by omega) rfl, ?_⟩
 rintro last x ⟨_ | ⟨a, l⟩, s, k2⟩
 · rw [s.d0, zzc]
   refine cIf (fun h => ?_) fun h => ?_
   · simpa [zfg, show ¬ L.length ≤ 8 by omega] using k
   · simpa [zfg, k2, zpd, show L.length ≤ 8 by omega] using k
 · simp only [s.d1, s.el, eS, ug0, ugs, zbo, cond_true]
   have bad : zpd types last (a :: l) = false → Q (.i 1) [] := fun h => by simpa [zfg, k2, h] using k
   refine cIf (fun h => ?_) fun h1 => cIf (fun h => ?_) fun h2 => cIf (fun h => ?_) fun h3 => cIf (fun h => ?_) fun h4 => s.step ?_
   iterate 4 exact bad (by simp only [zpd, z16, decide_eq_false_iff_not]; omega)
   rw [k2, zpd, decide_eq_true (by omega), Bool.true_and]
end
section
set_option maxRecDepth 100000
theorem zsa : Tryz.prog.follows .mixedOrders = true := by kernel_rfl
theorem S290p {b f : List (List U)} {c : List Int} (hh : PRun Tryz.prog 76 [] [(q16 h i j 1)] (post [.B] [] (fun p => (bif !p then Q (.i 1) (q15 b c) else PRun Tryz.prog 168 [] [.l 2 f, .i 32] (post q7 [] (fun q => (bif q != 0 then Q (.i 1) (q15 b c) else ∃ (g : Int → List (List U) → List Int → Prop) (k : Int → List (List U) → List Int → Nat), g 0 b c ∧ (∀ a : Int, ∀ d : List (List U), ∀ e : List Int, g a d e → (bif decide (a < (zy6 f : Int)) then elL f a (fun l => dI .i64 (ug l 0) (fun r => dI .i64 (ug l 1) (fun s => PRun Tryz.prog 205 (q15 d e) [.r 0 0, q16 h i j r, .i s] (post q7 q3 (fun m n o => (bif m != 0 then Q (.i m) (q15 b c) else g (zy5 .i64 (a + 1)) n o ∧ k (zy5 .i64 (a + 1)) n o < k a d e : Prop)))))) else Q (.i 0) (q15 d e))) : Prop))) : Prop)))) : PRun Tryz.prog 290 (q15 b c) [.r 0 0, q16 h i j t, .l 2 f, .f 205 [] []] Q :=
 zad zsa Tryz.func290 (by kernel_rfl) (H := ⟨[((290, 5, 5), ⟨[(31, .I)], [(0, .c [.l 5, .n 33])]⟩)], [], [341], [], [], false, 64, KN.no, false, SP.no⟩) (n := 3) (by kernel_rfl) hh
theorem S290t {b f : List (List U)} {c : List Int} (hh : PRun Tryz.prog 76 [] [(q16 h i j 1)] (post [.B] [] (fun p => (bif !p then Q (.i 1) (q15 b c) else PRun Tryz.prog 168 [] [.l 2 f, .i 32] (post q7 [] (fun q => (bif q != 0 then Q (.i 1) (q15 b c) else ∃ (g : Int → List (List U) → List Int → Prop) (k : Int → List (List U) → List Int → Nat), g 0 b c ∧ (∀ a : Int, ∀ d : List (List U), ∀ e : List Int, g a d e → (bif decide (a < (zy6 f : Int)) then elL f a (fun l => dI .i64 (ug l 0) (fun r => dI .i64 (ug l 1) (fun s => PRun Tryz.prog 291 (q15 d e) [.r 0 0, q16 h i j r, .i s] (post q7 q3 (fun m n o => (bif m != 0 then Q (.i m) (q15 b c) else g (zy5 .i64 (a + 1)) n o ∧ k (zy5 .i64 (a + 1)) n o < k a d e : Prop)))))) else Q (.i 0) (q15 d e))) : Prop))) : Prop)))) : PRun Tryz.prog 290 (q15 b c) [.r 0 0, q16 h i j t, .l 2 f, .f 291 [] []] Q :=
 zad zsa Tryz.func290 (by kernel_rfl) (H := ⟨[((290, 5, 5), ⟨[(31, .I)], [(0, .c [.l 5, .n 33])]⟩)], [], [341], [], [], false, 64, KN.no, false, SP.no⟩) (n := 3) (by kernel_rfl) hh
theorem S193 {a g : List (List U)} {b : List Int} {c e : Int} (hh : PRun Tryz.prog 290 (q15 a b) [.r 0 0, q16 c d e f, .l 2 g, .f 205 [] []] (post q7 q3 (fun h i j => (Q (.i h) (q15 i j) : Prop)))) : PRun Tryz.prog 193 (q15 a b) [.r 0 0, q16 c d e f, .l 2 g] Q :=
 zad zsa Tryz.func193 (by kernel_rfl) (H := ⟨[], [], [], [], [], false, 64, KN.no, false, SP.no⟩) (n := 2) (by kernel_rfl) hh
theorem S192 {a g : List (List U)} {b : List Int} {c e : Int} (hh : PRun Tryz.prog 290 (q15 a b) [.r 0 0, q16 c d e f, .l 2 g, .f 291 [] []] (post q7 q3 (fun h i j => (Q (.i h) (q15 i j) : Prop)))) : PRun Tryz.prog 192 (q15 a b) [.r 0 0, q16 c d e f, .l 2 g] Q :=
 zad zsa Tryz.func192 (by kernel_rfl) (H := ⟨[], [], [], [], [], false, 64, KN.no, false, SP.no⟩) (n := 2) (by kernel_rfl) hh
end
section
variable {Q : V → Mem → Prop}
theorem zb3 (k1 : 1 ≤ d → d ≤ 32 → Q (.i (tyQ d l)) [bK l]) (k2 : d < 1 ∨ 32 < d → Q (.i 0) [bK l]) : PRun Tryz.prog 14 [bK l] [.r 0 0, .i d] Q := by
 refine S14 (cIf (fun h1 => zfn (cIf (fun h2 => ⟨by omega, by omega, ?_⟩) fun h2 => k2 (by omega))) fun h1 => k2 (by omega))
 rw [zah (r := tyQ d l) (by omega) (zdn l (by omega))]
 exact k1 (by omega) (by omega)
abbrev bin (x : K4) (t : Int) : K4 := ⟨x.a, x.b, x.c, t⟩
def zjr (x : K4) : List Stk → Tb → Option Tb
 | [], l => some l
 | s :: r, l => if tyQ s.1 l + s.2 ≤ 1125899906842624 then zjr x r (ze1 (bin x s.1) (zan (bin x s.1) l + s.2) l) else none
def zb9 (x : K4) : List Stk → Tb → Option Tb
 | [], l => some l
 | s :: r, l => if s.2 ≤ zan (bin x s.1) l then zb9 x r (ze1 (bin x s.1) (zan (bin x s.1) l + -s.2) l) else none
theorem zm8 (h : zfg L types = 0) : ∀ s ∈ L, 1 ≤ s.1 ∧ s.1 ≤ types ∧ 1 ≤ s.2 ∧ s.2 ≤ 1125899906842624 := by
 have h1 : zpd types 0 L = true := by
  unfold zfg at h
  split at h
  · rename_i hh; exact hh.1
  · cases h
 have : ∀ (l : List Stk) (last : Int), 0 ≤ last → zpd types last l = true → ∀ s ∈ l, 1 ≤ s.1 ∧ s.1 ≤ types ∧ 1 ≤ s.2 ∧ s.2 ≤ 1125899906842624 := by
  intro l
  induction l with
  | nil => intro _ _ _ s hs; simp at hs
  | cons a l ih =>
    intro last h0 hc s hs
    simp only [zpd, zy9, decide_eq_true_eq] at hc
    rcases zze.1 hs with rfl | hs
    · omega
    · exact ih a.1 (by omega) hc.2 s hs
 exact this L 0 (zzw _) h1
theorem zgt (h : isB (bin x 1) = true) (ht : 1 ≤ t ∧ t ≤ 32) : isB (bin x t) = true := by
 simp only [isB, zy9, decide_eq_true_eq] at h ⊢
 omega
theorem putAll_B (h : BInv l) (hl : l.length ≤ 900000) (hL : L.length ≤ 1000)
 (k1 : isB (bin x 1) = false ∨ zfg L 32 ≠ 0 → Q (.i 1) [bK l]) (k2 : isB (bin x 1) = true → zfg L 32 = 0 → zjr x L l = none → Q (.i 5) [bK l])
 (k3 : ∀ l', isB (bin x 1) = true → zfg L 32 = 0 → zjr x L l = some l' → BInv l' → l'.length ≤ l.length + L.length → Q (.i 0) [bK l']) :
 PRun Tryz.prog 193 [bK l] [.r 0 0, kV x, .l 2 (L.map eS)] Q := by
 refine S193 (S290p (zxy (k := bin x 1) ?_))
 rw [zbk]
 cases hx : isB (bin x 1) with
 | false => exact k1 (.inl hx)
 | true =>
   show PRun _ _ _ _ _
   refine zho (by omega) ?_
   rw [zaw]
   by_cases hc : zfg L 32 = 0
   · rw [hc]
     have hm := zm8 hc
     refine ⟨fun i rows a => SufI L (fun r => (∀ s ∈ r, s ∈ L) ∧ ∃ lt, rows = lt.map eT ∧ a = zfl lt ∧ BInv lt ∧ lt.length + r.length ≤ l.length + L.length ∧ zjr x r lt = zjr x L l) i, fun i _ _ => zpl L i, .zero (by omega) ⟨fun s hs => hs, l, rfl, rfl, h, zzk _, rfl⟩, ?_⟩
     rintro i _ _ ⟨r, s, hsub, lt, rfl, rfl, hi, hln, hp⟩
     cases r with
     | nil =>
       rw [s.d0]
       exact k3 lt hx hc hp.symm hi (by simpa using hln)
     | cons q r =>
       simp only [zzr] at hln
       have hq := hm q (hsub q (by simp))
       simp only [s.d1, s.el, eS, ug0, ugs, zbo, cond_true]
       refine put_B (k := bin x q.1) hi (by omega) (fun hb => ?_) (fun _ _ hb => ?_) fun _ _ hb => ?_
       · rw [zgt hx (by omega)] at hb; rcases hb with hb | hb
         · cases hb
         · omega
       · have e : zjr x L l = none := by rw [← hp]; simp only [zjr]; rw [if_neg (by simp only at hb; omega)]
         exact k2 hx hc e
       · refine s.step ?_
         refine ⟨fun t ht => hsub t (by simp [ht]), _, rfl, rfl, hi.set (zgt hx (by omega)) (by have := (hi.val (bin x q.1)).1; omega) hb, by have := zhv (k := bin x q.1) (v := zan (bin x q.1) lt + q.2) (l := lt); omega, ?_⟩
         rw [← hp]
         simp only [zjr]
         rw [if_pos hb]
   · have e : (zfg L 32 != 0) = true := by simpa using hc
     rw [e]
     exact k1 (.inr hc)
end
section
variable {Q : V → Mem → Prop}
theorem znx (h : BInv l) (hl : l.length ≤ 900000) (hL : L.length ≤ 1000)
 (k1 : isB (bin x 1) = false ∨ zfg L 32 ≠ 0 → Q (.i 1) [bK l]) (k2 : isB (bin x 1) = true → zfg L 32 = 0 → zb9 x L l = none → Q (.i 7) [bK l])
 (k3 : ∀ l', isB (bin x 1) = true → zfg L 32 = 0 → zb9 x L l = some l' → BInv l' → l'.length ≤ l.length + L.length → Q (.i 0) [bK l']) :
 PRun Tryz.prog 192 [bK l] [.r 0 0, kV x, .l 2 (L.map eS)] Q := by
 refine S192 (S290t (zxy (k := bin x 1) ?_))
 rw [zbk]
 cases hx : isB (bin x 1) with
 | false => exact k1 (.inl hx)
 | true =>
   show PRun _ _ _ _ _
   refine zho (by omega) ?_
   rw [zaw]
   by_cases hc : zfg L 32 = 0
   · rw [hc]
     have hm := zm8 hc
     refine ⟨fun i rows a => SufI L (fun r => (∀ s ∈ r, s ∈ L) ∧ ∃ lt, rows = lt.map eT ∧ a = zfl lt ∧ BInv lt ∧ lt.length + r.length ≤ l.length + L.length ∧ zb9 x r lt = zb9 x L l) i, fun i _ _ => zpl L i, .zero (by omega) ⟨fun s hs => hs, l, rfl, rfl, h, zzk _, rfl⟩, ?_⟩
     rintro i _ _ ⟨r, s, hsub, lt, rfl, rfl, hi, hln, hp⟩
     cases r with
     | nil =>
       rw [s.d0]
       exact k3 lt hx hc hp.symm hi (by simpa using hln)
     | cons q r =>
       simp only [zzr] at hln
       have hq := hm q (hsub q (by simp))
       simp only [s.d1, s.el, eS, ug0, ugs, zbo, cond_true]
       refine take_B (k := bin x q.1) hi (by omega) (fun hb => ?_) (fun _ _ hb => ?_) fun _ _ hb => ?_
       · rw [zgt hx (by omega)] at hb; rcases hb with hb | hb
         · cases hb
         · omega
       · have e : zb9 x L l = none := by rw [← hp]; simp only [zb9]; rw [if_neg (by have hb' : zan (bin x q.1) lt < q.2 := hb; omega)]
         exact k2 hx hc e
       · refine s.step ?_
         refine ⟨fun t ht => hsub t (by simp [ht]), _, rfl, rfl, hi.set (zgt hx (by omega)) (by have hb' : q.2 ≤ zan ⟨x.a, x.b, x.c, q.1⟩ lt := hb; omega) (by have := hi.top q.1; simp only; omega), by have := zhv (k := bin x q.1) (v := zan (bin x q.1) lt + -q.2) (l := lt); omega, ?_⟩
         rw [← hp]
         simp only [zb9]
         rw [if_pos hb]
   · have e : (zfg L 32 != 0) = true := by simpa using hc
     rw [e]
     exact k1 (.inr hc)
end
section
variable {Q : V → Mem → Prop}
def accs (l : Tb) : List (List U) := l.map fun r => [.n r.1.a, .n r.2]
structure PInv (l : Tb) (n : Int) : Prop where
 srt : Srt l
 key : ∀ r ∈ l, r.1 = oK r.1.a ∧ 0 ≤ r.1.a ∧ r.1.a ≤ 1099511627776 ∧ 0 ≤ r.2
 sum : n = zfk l
 top : n ≤ 1152921504606846976
theorem zlr : ∀ {l : Tb}, (∀ r ∈ l, 0 ≤ r.2) → 0 ≤ zfk l
 | [], _ => zzw _
 | r :: l, h => by
   have h1 := h r zz1
   have h2 := zlr (l := l) fun s hs => h s (zzy _ hs)
   simp only [zfk]; omega
theorem zvc {k : K4} : ∀ {l : Tb}, (∀ r ∈ l, 0 ≤ r.2) → 0 ≤ zan k l ∧ zan k l ≤ zfk l
 | [], _ => ⟨zzw _, zzw _⟩
 | r :: l, h => by
   have h1 := h r zz1
   have h3 := zlr (l := l) fun s hs => h s (zzy _ hs)
   have h2 := zvc (k := k) (l := l) fun s hs => h s (zzy _ hs)
   simp only [zan, zau, zfk] at *
   by_cases e : r.1 = k
   · rw [if_pos e, z0j]; omega
   · rw [if_neg e]; omega
theorem PInv.val (h : PInv l n) (o : Int) : 0 ≤ zan (oK o) l ∧ zan (oK o) l ≤ n := by
 have := zvc (k := oK o) (l := l) fun r hr => (h.key r hr).2.2.2
 rw [h.sum]; exact this
theorem PInv.nn (h : PInv l n) : 0 ≤ n := by rw [h.sum]; exact zlr fun r hr => (h.key r hr).2.2.2
theorem PInv.put {o : Int} (h : PInv l n) (ho : 0 ≤ o ∧ o ≤ 1099511627776) (hv : 0 ≤ v) (ht : n + v - zan (oK o) l ≤ 1152921504606846976) : PInv (zde (oK o) v l) (n + v - zan (oK o) l) where
 srt := zhi h.srt
 key r hr := by
  rcases zhj hr with e | e
  · subst e; exact ⟨rfl, ho.1, ho.2, hv⟩
  · exact h.key r e
 sum := by rw [zre h.srt, h.sum]
 top := ht
end
section
set_option maxRecDepth 100000
theorem mixTm : Tryz.prog.follows .mixedOrders = true := by kernel_rfl
theorem S195 (hh : PRun Tryz.prog 172 [.c [.l 5 e, .i f]] [.r 0 0, .i g] (post q10 q9 (fun h c a b => (bif c != 0 then Q (.i c) [.c [.l 5 a, .i b]] else (bif decide (d < 0) then Q (.i 1) [.c [.l 5 a, .i b]] else (bif decide (d > h) then Q (.i 6) [.c [.l 5 a, .i b]] else Q (.i 0) [.c [.l 5 a, .i b]])) : Prop)))) : PRun Tryz.prog 195 [.c [.l 5 e, .i f]] [.r 0 0, .i g, .i d] Q :=
 zad mixTm Tryz.func195 (by kernel_rfl) (H := ⟨[], [], [], [], [], false, 64, KN.no, false, SP.no⟩) (n := 2) (by kernel_rfl) hh
theorem S89 {e k : Int} (hh : ∃ (d : Int → List (List U) → Int → Prop) (j : Int → List (List U) → Int → Nat), d 0 o p ∧ (∀ a : Int, ∀ b : List (List U), ∀ c : Int, d a b c → (bif decide (a < 2) then 0 ≤ a ∧ a < 2 ∧ (elL ([[.n e], [.n k]] : List (List U)) a (fun q => dI .i64 (ug q 0) (fun r => PRun Tryz.prog 172 [.c [.l 5 b, .i c]] [.r 0 0, .i r] (post q10 q9 (fun w l f g => (bif l != 0 then Q (.i l) [.c [.l 5 f, .i g]] else d (zy5 .i64 (a + 1)) f g ∧ j (zy5 .i64 (a + 1)) f g < j a b c : Prop)))))) else PRun Tryz.prog 195 [.c [.l 5 b, .i c]] [.r 0 0, .i e, .i h] (post q7 q9 (fun i m n => (bif i == 0 then PRun Tryz.prog 174 [.c [.l 5 m, .i n]] [.r 0 0, .i e, .i (zy5 .i64 (0 - h))] (post [] q9 (fun s t => (PRun Tryz.prog 174 [.c [.l 5 s, .i t]] [.r 0 0, .i k, .i h] (post [] q9 (fun u v => (Q (.i i) [.c [.l 5 u, .i v]] : Prop))) : Prop))) else Q (.i i) [.c [.l 5 m, .i n]] : Prop)))))) : PRun Tryz.prog 89 [.c [.l 5 o, .i p]] [.r 0 0, .i e, .i k, .i h] Q :=
 zad mixTm Tryz.func89 (by kernel_rfl) (H := ⟨[((89, 2, 2), ⟨[(18, .I)], [(0, .c [.l 5, .i .i64])]⟩)], [], [], [], [], false, 64, KN.no, false, SP.no⟩) (n := 2) (by kernel_rfl) hh
theorem S13 {b : List (List U)} (hh : Q (.i a) [.c [.l 5 b, .i a]]) : PRun Tryz.prog 13 [.c [.l 5 b, .i a]] [.r 0 0] Q :=
 zad mixTm Tryz.func13 (by kernel_rfl) (H := ⟨[], [], [], [], [], false, 64, KN.no, false, SP.no⟩) (n := 2) (by kernel_rfl) hh
theorem S189 {c : Int} (hh : PRun Tryz.prog 288 [] [.i c] (post q7 [] (fun b => (bif b == 0 then Q (.t [.i 0, .i 1]) [] else (bif decide (a < 1) then Q (.t [.i 0, .i 1]) [] else (bif decide (a ≥ 1048576) then Q (.t [.i 0, .i 1]) [] else Q (.t [.i (zy5 .i64 (b + a)), .i 0]) [])) : Prop)))) : PRun Tryz.prog 189 [] [.i c, .i a] Q :=
 zad mixTm Tryz.func189 (by kernel_rfl) (H := ⟨[], [], [], [], [], false, 64, KN.no, false, SP.no⟩) (n := 2) (by kernel_rfl) hh
end
section
variable {Q : V → Mem → Prop}
def zqt (o : Int) (l : Tb) : Bool := (zau (oK o) l).isSome
def zoh (o n : Int) (l : Tb) : Int := if zqt o l then (if n < 0 then 1 else if zan (oK o) l < n then 6 else 0) else 3
def zgo (f t n : Int) (l : Tb) : Int := if zqt f l && zqt t l then zoh f n l else 3
def zxa (f t n : Int) (l : Tb) : Tb := zde (oK t) (zan (oK t) (zde (oK f) (zan (oK f) l + -n) l) + n) (zde (oK f) (zan (oK f) l + -n) l)
theorem zkm {o : Int} (h : zoh o n l = 0) : zqt o l = true ∧ 0 ≤ n ∧ n ≤ zan (oK o) l := by
 unfold zoh at h
 split at h
 · rename_i h1
   split at h
   · cases h
   · split at h
     · cases h
     · exact ⟨h1, by omega, by omega⟩
 · cases h
theorem zkg (h : zgo f t n l = 0) : zqt f l = true ∧ zqt t l = true ∧ 0 ≤ n ∧ n ≤ zan (oK f) l := by
 unfold zgo at h
 split at h
 · rename_i h1
   simp only [zy9] at h1
   exact ⟨h1.1, h1.2, (zkm h).2⟩
 · cases h
theorem PInv.own {o : Int} (h : PInv l n) (ho : zqt o l = true) : 0 ≤ o ∧ o ≤ 1099511627776 := by
 obtain ⟨v, hv⟩ := z2x.1 ho
 have := h.key _ (zeo hv)
 exact ⟨this.2.1, this.2.2.1⟩
theorem PInv.move {n0 : Int} (h : PInv l n0) (e : zgo f t n l = 0) : PInv (zxa f t n l) n0 := by
 obtain ⟨h1, h2, h3, h4⟩ := zkg e
 have hv := h.val f
 have p1 : PInv (zde (oK f) (zan (oK f) l + -n) l) (n0 + -n) := by
  have := h.put (o := f) (v := zan (oK f) l + -n) (h.own h1) (by omega) (by have := h.top; omega)
  rwa [show n0 + (zan (oK f) l + -n) - zan (oK f) l = n0 + -n by omega] at this
 have hv2 := p1.val t
 have := p1.put (o := t) (v := zan (oK t) (zde (oK f) (zan (oK f) l + -n) l) + n) (h.own h2) (by omega) (by have := h.top; omega)
 rwa [show n0 + -n + (zan (oK t) (zde (oK f) (zan (oK f) l + -n) l) + n) - zan (oK t) (zde (oK f) (zan (oK f) l + -n) l) = n0 by omega] at this
theorem zh0 (hs : Srt l) (h : (zau k l).isSome = true) : (zde k v l).length = l.length := by
 obtain ⟨w, hw⟩ := z2x.1 h
 have hr := (zza.1 (zdo hs hw)).1
 rw [zps hs, h]
 simp
 omega
theorem zw9 (hs : Srt l) (e : zgo f t n l = 0) : (zxa f t n l).length = l.length := by
 obtain ⟨h1, h2, h3, h4⟩ := zkg e
 unfold zxa
 rw [zh0 (zhi hs), zh0 hs h1]
 rw [zlt _ hs]
 split
 · rfl
 · exact h2
theorem may_S {n0 o : Int} (h : PInv l n0) (hl : l.length ≤ 1000000) (k : Q (.i (zoh o n l)) [pC l n0]) : PRun Tryz.prog 195 [pC l n0] [.r 0 0, .i o, .i n] Q := by
 refine S195 (ziu h.srt hl ?_)
 show (bif (if (zau (oK o) l).isSome = true then (0 : Int) else 3) != 0 then _ else _ : Prop)
 unfold zoh zqt at k
 by_cases hg : (zau (oK o) l).isSome = true
 · rw [if_pos hg]
   rw [if_pos hg] at k
   refine cNe (fun h => absurd rfl h) fun _ => cIf (fun h1 => by rwa [if_pos h1] at k) fun h1 => cIf (fun h2 => ?_) fun h2 => ?_
   · rw [if_neg h1, if_pos (show zan (oK o) l < n from h2)] at k; exact k
   · rw [if_neg h1, if_neg (show ¬ zan (oK o) l < n from h2)] at k; exact k
 · rw [if_neg hg]
   rw [if_neg hg] at k
   exact k
theorem move_S {n0 : Int} (h : PInv l n0) (hl : l.length ≤ 900000) (k1 : zgo f t n l ≠ 0 → Q (.i (zgo f t n l)) [pC l n0]) (k2 : zgo f t n l = 0 → Q (.i 0) [pC (zxa f t n l) n0]) :
 PRun Tryz.prog 89 [pC l n0] [.r 0 0, .i f, .i t, .i n] Q := by
 refine S89 ⟨fun x l' y => l.map eT = l' ∧ n0 = y ∧ (x = 0 ∨ (x = 1 ∧ zqt f l = true) ∨ (x = 2 ∧ zqt f l = true ∧ zqt t l = true)), fun x _ _ => (2 - x).toNat, ⟨rfl, rfl, .inl rfl⟩, ?_⟩
 rintro x _ _ ⟨rfl, rfl, hx⟩
 have bad : zqt f l = false ∨ zqt t l = false → Q (.i 3) [pC l n0] := fun hb => by
  have e : zgo f t n l = 3 := by
   unfold zgo
   rw [if_neg]
   rcases hb with hb | hb <;> simp [hb]
  rw [e] at k1
  exact k1 (by decide)
 rcases hx with rfl | ⟨rfl, hf⟩ | ⟨rfl, hf, ht⟩
 · refine cIf (fun _ => ⟨by decide, by decide, ?_⟩) fun h => absurd (by decide) h
   show PRun _ _ _ _ _
   refine ziu h.srt (by omega) ?_
   show (bif (if (zau (oK f) l).isSome = true then (0 : Int) else 3) != 0 then Q (.i (if (zau (oK f) l).isSome = true then (0 : Int) else 3)) [pC l n0] else _ ∧ _ : Prop)
   by_cases hg : (zau (oK f) l).isSome = true
   · rw [if_pos hg]
     exact cNe (fun h => absurd rfl h) fun _ => ⟨⟨by first | trivial | rfl, by first | trivial | rfl, .inr (.inl ⟨rfl, hg⟩)⟩, by dsimp only; decide⟩
   · rw [if_neg hg]
     exact bad (.inl (by unfold zqt; simpa using hg))
 · refine cIf (fun _ => ⟨by decide, by decide, ?_⟩) fun h => absurd (by decide) h
   show PRun _ _ _ _ _
   refine ziu h.srt (by omega) ?_
   show (bif (if (zau (oK t) l).isSome = true then (0 : Int) else 3) != 0 then Q (.i (if (zau (oK t) l).isSome = true then (0 : Int) else 3)) [pC l n0] else _ ∧ _ : Prop)
   by_cases hg : (zau (oK t) l).isSome = true
   · rw [if_pos hg]
     exact cNe (fun h => absurd rfl h) fun _ => ⟨⟨by first | trivial | rfl, by first | trivial | rfl, .inr (.inr ⟨rfl, hf, hg⟩)⟩, by dsimp only; decide⟩
   · rw [if_neg hg]
     exact bad (.inr (by unfold zqt; simpa using hg))
 · refine cIf (fun h => absurd h (by decide)) fun _ => ?_
   refine may_S h (by omega) ?_
   show (bif zoh f n l == 0 then PRun _ _ _ _ _ else _ : Prop)
   have em : zgo f t n l = zoh f n l := by unfold zgo; rw [hf, ht]; rfl
   rw [em] at k1 k2
   refine cEq (fun h0 => ?_) fun h0 => k1 h0
   obtain ⟨-, g1, g2⟩ := zkm h0
   have hv := h.val f
   have htop := h.top
   have hsum := h.nn
   have e1 : zy5 .i64 (0 - n) = -n := by rw [w64 (by omega) (by omega)]; omega
   rw [e1]
   refine zy2 h.srt (by omega) ?_
   rw [w64 (x := zan (oK f) l + -n) (by omega) (by omega), w64 (x := n0 + -n) (by omega) (by omega)]
   show PRun _ _ _ _ _
   have p1 : PInv (zde (oK f) (zan (oK f) l + -n) l) (n0 + -n) := by
    have := h.put (o := f) (v := zan (oK f) l + -n) (h.own hf) (by omega) (by omega)
    rwa [show n0 + (zan (oK f) l + -n) - zan (oK f) l = n0 + -n by omega] at this
   have hv2 := p1.val t
   have htl := zls (k := oK f) (v := zan (oK f) l + -n) (l := l)
   refine zy2 p1.srt (by omega) ?_
   rw [w64 (x := zan (oK t) (zde (oK f) (zan (oK f) l + -n) l) + n) (by omega) (by omega), w64 (x := n0 + -n + n) (by omega) (by omega), show n0 + -n + n = n0 by omega]
   show Q (.i (zoh f n l)) _
   rw [h0]
   exact k2 h0
theorem zry (k : Q (.i n) [pC l n]) : PRun Tryz.prog 13 [pC l n] [.r 0 0] Q := S13 k
end
section
set_option maxRecDepth 100000
theorem zsd : Tryz.prog.follows .mixedOrders = true := by kernel_rfl
theorem S288 (hh : bif a == 1 then Q (.i 1048576) [] else (bif a == 2 then Q (.i 2097152) [] else Q (.i 0) [])) : PRun Tryz.prog 288 [] [.i a] Q :=
 zad zsd Tryz.func288 (by kernel_rfl) (H := ⟨[], [], [], [], [], false, 64, KN.no, false, SP.no⟩) (n := 2) (by kernel_rfl) hh
theorem S26 (hh : Q (.t [.r 0 0, .i 0]) [.c [.nl 3, .m 1, .i 256, .i 1], .p .n 1 false []]) : PRun Tryz.prog 26 [] [.i 256] Q :=
 zad zsd Tryz.func26 (by kernel_rfl) (H := ⟨[], [], [79], [], [], true, 64, KN.no, false, SP.no⟩) (n := 3) (by kernel_rfl) hh
theorem S25 {m : List (List U)} (hh : ∃ (i : Bool → Int → List (List U) → List Int → Prop) (j : Bool → Int → List (List U) → List Int → Nat), i false 0 [] (zzu 33 0) ∧ (∀ c : Bool, ∀ b : Int, ∀ e : List (List U), ∀ f : List Int, i c b e f → (bif decide (b < (zy6 m : Int)) then elL m b (fun g => dI .i64 (ug g 0) (fun n => dI .i64 (ug g 1) (fun o => dI .i64 (ug g 2) (fun p => dI .i64 (ug g 3) (fun a => dI .i64 (ug g 4) (fun d => PRun Tryz.prog 76 [] [(q16 n o p a)] (post [.B] [] (fun q => (bif !q then Q (.t [.u (.p none), .i 1]) [] else (bif decide (d ≥ 1) then (bif !(decide (d ≤ 1125899906842624)) then Q (.t [.u (.p none), .i 1]) [] else PRun Tryz.prog 77 (q15 e f) [.r 0 0, q16 n o p a, .i d] (post [.B] q3 (fun r k h => (bif !r then Q (.t [.u (.p none), .i 1]) [] else 0 ≤ a ∧ a < (33 : Int) ∧ (elL h a (fun l => (bif decide (zy5 .i64 (l + d) > 1125899906842624) then 0 ≤ a ∧ a < (33 : Int) ∧ (i true (zy5 .i64 (b + 1)) k (zzm h (zy8 a) 1125899906842624) ∧ j true (zy5 .i64 (b + 1)) k (zzm h (zy8 a) 1125899906842624) < j c b e f) else 0 ≤ a ∧ a < (33 : Int) ∧ (i c (zy5 .i64 (b + 1)) k (zzm h (zy8 a) (zy5 .i64 (l + d))) ∧ j c (zy5 .i64 (b + 1)) k (zzm h (zy8 a) (zy5 .i64 (l + d))) < j c b e f)))) : Prop)))) else Q (.t [.u (.p none), .i 1]) []) : Prop))))))))) else (bif c then Q (.t [.u (.p none), .i 5]) [] else Q (.t [.r 0 0, .i 0]) (q15 e f))))) : PRun Tryz.prog 25 [] [.l 5 m] Q :=
 zad zsd Tryz.func25 (by kernel_rfl) (H := ⟨[((25, 4, 1), ⟨[(5, .B), (13, .I)], [(0, .c [.l 5, .n 33])]⟩)], [], [42, 78], [], [], false, 64, KN.no, false, SP.no⟩) (n := 3) (by kernel_rfl) hh
theorem S77 {a : List (List U)} {i : List Int} {c e : Int} (hh : PRun Tryz.prog 277 [] [.l 5 a, q16 c d e f, .f 278 [] []] (post q12 [] (fun b h => (0 ≤ b ∧ (b ≤ (zy6 a : Int) ∧ (zy6 a : Int) ≤ (zy6 a : Int) ∧ (bif h then 0 ≤ (1 : Int) ∧ ((1 : Int) ≤ (zy6 (List.drop (zy8 b) (List.take (zy6 a) a)) : Int) ∧ (zy6 (List.drop (zy8 b) (List.take (zy6 a) a)) : Int) ≤ (zy6 (List.drop (zy8 b) (List.take (zy6 a) a)) : Int) ∧ ((0 : Int) ≤ b ∧ b ≤ (zy6 a : Int) ∧ b = b ∧ (zak (List.take (zy8 b) a) [(q19 c d e f g)] ∧ (zak (List.take (zy8 b) a ++ [(q19 c d e f g)]) (List.drop 1 (List.take (zy6 (List.drop (zy8 b) (List.take (zy6 a) a))) (List.drop (zy8 b) (List.take (zy6 a) a)))) ∧ (Q (.u (.b (!h))) (q31 i (List.take (zy8 b) a ++ [(q19 c d e f g)] ++ List.drop 1 (List.take (zy6 (List.drop (zy8 b) (List.take (zy6 a) a))) (List.drop (zy8 b) (List.take (zy6 a) a)))))))))) else (0 : Int) ≤ b ∧ b ≤ (zy6 a : Int) ∧ b = b ∧ (zak (List.take (zy8 b) a) [(q19 c d e f g)] ∧ (zak (List.take (zy8 b) a ++ [(q19 c d e f g)]) (List.drop (zy8 b) (List.take (zy6 a) a)) ∧ (Q (.u (.b (!h))) (q31 i (List.take (zy8 b) a ++ [(q19 c d e f g)] ++ List.drop (zy8 b) (List.take (zy6 a) a)))))))) : Prop)))) : PRun Tryz.prog 77 (q15 a i) [.r 0 0, q16 c d e f, .i g] Q :=
 zad zsd Tryz.func77 (by kernel_rfl) (H := ⟨[], [], [175, 264], [], [], false, 64, KN.no, false, SP.no⟩) (n := 4) (by kernel_rfl) hh
end
section
set_option maxRecDepth 100000
variable {Q : V → Mem → Prop}
theorem zvg {α : Type} {l : List α} {i : Nat} {x : α} (h : l[i]? = some x) : l.take (i + 1) = l.take i ++ [x] := by rw [z1g, h]; rfl
theorem zhz {k : K4} {v : Int} : ∀ {t : Tb}, Srt (t ++ [(k, v)]) → ∀ w u, zde k w t = t ++ [(k, w)] ∧ zau k t = none ∧ zde k u (t ++ [(k, w)]) = t ++ [(k, u)] ∧ zau k (t ++ [(k, w)]) = some w
 | [], _, w, u => by
   refine ⟨rfl, rfl, ?_, ?_⟩
   · simp only [z0i, zde, if_neg (K4.irr k), if_true]
   · simp only [z0i, zau, if_true]
 | r :: t, h, w, u => by
   have h : Srt (r :: (t ++ [(k, v)])) := h
   have h1 : r.1.lt k := h.head (k, v) (by simp)
   have h2 : ¬ r.1 = k := fun e => K4.irr k (by rwa [e] at h1)
   obtain ⟨i1, i2, i3, i4⟩ := zhz (t := t) h.tail w u
   simp only [z0g, zde, zau, if_pos h1, if_neg h2, i1, i2, i3, i4]
   exact ⟨trivial, trivial, trivial, trivial⟩
theorem above_S {w : Int} (K : Q (.i (if w = 1 then 1048576 else if w = 2 then 2097152 else 0)) []) : PRun Tryz.prog 288 [] [.i w] Q := by
 refine S288 (cEq (fun h => ?_) fun h => cEq (fun h2 => ?_) fun h2 => ?_)
 · rwa [if_pos h] at K
 · rwa [if_neg h, if_pos h2] at K
 · rwa [if_neg h, if_neg h2] at K
theorem post_pII {F : Int → Int → List (List U) → Int → Prop} {x e : Int} : post [.I, .I] [.c [.l 5, .i .i64]] F (.t [.i x, .i e]) [pC l n] = F x e (l.map eT) n := rfl
theorem zwk {F : Int → List (List U) → Int → Prop} {e : Int} : post [.I] [.c [.l 5, .i .i64]] F (.i e) [pC l n] = F e (l.map eT) n := rfl
theorem addN_S (ha : 0 ≤ a) (hb : 0 ≤ b) (h : a + b ≤ 9223372036854775807) (k : Q (.t [.i (a + b), .i 0]) []) : PRun Tryz.prog 173 [] [.i a, .i b] Q := by
 refine S173 ?_
 rw [w64 (x := a + b) (by omega) (by omega), decide_eq_true (show a ≥ 0 from ha), decide_eq_true (show b ≥ 0 from hb), decide_eq_true (show a + b ≥ 0 by omega)]
 exact k
theorem give_S {o x : Int} (h : PInv l n) (hl : l.length ≤ 900000) (ho : (zau (oK o) l).isSome = true) (hx : 0 ≤ x) (ht : n + x ≤ 1152921504606846976) (K : Q (.i 0) [pC (zde (oK o) (zan (oK o) l + x) l) (n + x)]) :
 PRun Tryz.prog 75 [pC l n] [.r 0 0, .i o, .i x] Q := by
 have hv := h.val o
 have hn := h.nn
 refine S75 (ziu h.srt (by omega) ?_)
 rw [post_pII, if_pos ho]
 refine cNe (fun h => absurd rfl h) fun _ => cIf (fun h => by omega) fun _ => addN_S hn hx (by omega) ?_
 rw [zb5]
 refine cNe (fun h => absurd rfl h) fun _ => cIf (fun h => by omega) fun _ => zy2 h.srt (by omega) ?_
 rw [w64 (x := zan (oK o) l + x) (by omega) (by omega), w64 (x := n + x) (by omega) (by omega)]
 exact K
theorem PInv.take (h : PInv l n) (i : Nat) : PInv (l.take i) (zfk (l.take i)) := by
 have e : zfk l = zfk (l.take i) + zfk (l.drop i) := by
  have : ∀ a b : Tb, zfk (a ++ b) = zfk a + zfk b := fun a b => by
   induction a with
   | nil => simp [zfk]
   | cons r a ih => simp only [z0g, zfk, ih]; omega
  rw [← this, z0t]
 have h1 := zlr (l := l.drop i) fun r hr => (h.key r (z14 hr)).2.2.2
 have h2 := h.sum
 have h3 := h.top
 exact ⟨h.srt.sublist (z3t _ _), fun r hr => h.key r (z13 hr), rfl, by omega⟩
theorem purl_S (hl : l.length ≤ 900000) (h : PInv l n) (K : Q (.t [.r 0 0, .i 0]) [pC l n]) : PRun Tryz.prog 24 [] [.l 2 (accs l)] Q := by
 have hlen : ((accs l).length : Int) = (l.length : Int) := by unfold accs; rw [zzc]
 refine S24 ⟨fun b x rows a => ∃ i : Nat, b = false ∧ x = (i : Int) ∧ i ≤ l.length ∧ rows = (l.take i).map eT ∧ a = zfk (l.take i), fun _ x _ _ => (l.length - x).toNat, ⟨0, rfl, rfl, zz3 _, rfl, rfl⟩, ?_⟩
 rintro _ _ _ _ ⟨i, rfl, rfl, hi, rfl, rfl⟩
 rw [hlen]
 have hP := h.take i
 refine cIf (fun hlt => ?_) fun hge => ?_
 · have hlt : i < l.length := by omega
   have hi2 := zzb hlt
   generalize l[i] = r at hi2
   obtain ⟨k, v⟩ := r
   have hk := h.key _ (zzf hi2)
   have hP2 := h.take (i + 1)
   rw [zvg hi2] at hP2
   have hs := zhz hP2.srt
   have ek : k = oK k.a := hk.1
   have hk2 : 0 ≤ k.a ∧ k.a ≤ 1099511627776 := ⟨hk.2.1, hk.2.2.1⟩
   have hv : 0 ≤ v := hk.2.2.2
   have ts : zfk (l.take i ++ [(k, v)]) = zfk (l.take i) + v := by
    have : ∀ a : Tb, zfk (a ++ [(k, v)]) = zfk a + v := fun a => by
     induction a with
     | nil => simp [zfk]
     | cons r a ih => simp only [z0g, zfk, ih]; omega
    exact this _
   have htop := hP2.top
   have hn0 := hP.nn
   rw [zah (r := [.n k.a, .n v]) (by omega) (by unfold accs; rw [zzs, zzg, hi2]; rfl)]
   simp only [ug0, ugs, zbo]
   refine cIf (fun h => by omega) fun _ => cIf (fun h => by omega) fun _ => ?_
   have ho : ziq k.a (l.take i) = 0 := by unfold ziq; rw [if_neg (by omega), if_neg (by omega), ← ek, (hs 0 0).2.1]; rfl
   refine open_S (l := l.take i) (n := zfk (l.take i)) hP.srt (by rw [zz9]; omega) ?_
   rw [zwk, ho]
   have e0 : openL k.a (l.take i) = l.take i ++ [(k, 0)] := by unfold openL; rw [if_pos ho, ← ek]; exact (hs 0 0).1
   rw [e0]
   have hP0 : PInv (l.take i ++ [(k, 0)]) (zfk (l.take i)) := by
    have := hP.put (o := k.a) (v := 0) ⟨hk.2.1, hk.2.2.1⟩ (zzw _) (by have := (hP.val k.a).1; have := hP.top; omega)
    rw [← ek, (hs 0 0).1, show zan k (l.take i) = 0 by unfold zan; rw [(hs 0 0).2.1]; rfl] at this
    simpa using this
   have g0 : zau k (l.take i ++ [(k, 0)]) = some 0 := (hs 0 0).2.2.2
   refine cNe (fun h => absurd rfl h) fun _ => give_S (l := l.take i ++ [(k, 0)]) hP0 (by simp; omega) (by rw [← ek, g0]; rfl) hv (by omega) ?_
   have e1 : zde (oK k.a) (zan (oK k.a) (l.take i ++ [(k, 0)]) + v) (l.take i ++ [(k, 0)]) = l.take (i + 1) := by
    rw [← ek, show zan k (l.take i ++ [(k, 0)]) = 0 by unfold zan; rw [g0]; rfl, Int.zero_add, zvg hi2, (hs 0 v).2.2.1]
   rw [e1, ← ts, ← zvg hi2, zwk]
   have ew : zy5 .i64 ((i : Int) + 1) = ((i + 1 : Nat) : Int) := w64n (by omega)
   rw [ew]
   exact cNe (fun h => absurd rfl h) fun _ => ⟨⟨i + 1, by first | trivial | rfl, rfl, by omega, rfl, rfl⟩, by omega⟩
 · have : i = l.length := by omega
   subst this
   rw [z0m, ← h.sum]
   exact K
theorem tputB_S {a : List Int} (hs : Srt l) (hl : l.length ≤ 900000) (K : Q (.u (.b (!(zau k l).isSome))) [bC (zde k v l) a]) : PRun Tryz.prog 77 [bC l a] [.r 0 0, kV k, .i v] Q := by
 refine PRun.trim (PRun.frz 0 0 (S77 (zbw (k := k) hs (by omega) ?_)))
 exact zhn (k := k) (v := v) hs rfl (by omega) (K := fun rows => Q (.u (.b (!(zau k l).isSome))) (zti 1 (.u (.b (!(zau k l).isSome))) (frzAt [.c [.w 1, .n .i64 33 a], .w 279 5 rows] 0 0))) K
theorem BInv.takeN (h : BInv l) (i : Nat) : BInv (l.take i) where
 srt := h.srt.sublist (z3t _ _)
 key r hr := h.key r (z13 hr)
 top d := by
  have e : tyQ d l = tyQ d (l.take i) + tyQ d (l.drop i) := by
   have : ∀ a b : Tb, tyQ d (a ++ b) = tyQ d a + tyQ d b := fun a b => by
    unfold tyQ
    induction a with
    | nil => simp [zd4]
    | cons r a ih => simp only [z0g, zd4, ih]; omega
   rw [← this, z0t]
  have h1 : 0 ≤ tyQ d (l.drop i) := zk2 fun r hr => h.nn r (z14 hr)
  have := h.top d
  omega
theorem post_Bk {F : Bool → List (List U) → List Int → Prop} {x : Bool} {a : List Int} : post [.B] [.c [.l 5, .n 33]] F (.u (.b x)) [bC l a] = F x (l.map eT) a := rfl
theorem binl_S (hl : l.length ≤ 900000) (h : BInv l) (K : Q (.t [.r 0 0, .i 0]) [bK l]) : PRun Tryz.prog 25 [] [.l 5 (l.map eT)] Q := by
 have hlen : ((l.map eT).length : Int) = (l.length : Int) := by rw [zzc]
 refine S25 ⟨fun b x rows a => ∃ i : Nat, b = false ∧ x = (i : Int) ∧ i ≤ l.length ∧ rows = (l.take i).map eT ∧ a = zfl (l.take i), fun _ x _ _ => (l.length - x).toNat, ⟨0, rfl, rfl, zz3 _, rfl, rfl⟩, ?_⟩
 rintro _ _ _ _ ⟨i, rfl, rfl, hi, rfl, rfl⟩
 rw [hlen]
 have hP := h.takeN i
 refine cIf (fun hlt => ?_) fun hge => ?_
 · have hlt : i < l.length := by omega
   have hi2 := zzb hlt
   generalize l[i] = r at hi2
   obtain ⟨k, v⟩ := r
   have hk := h.key _ (zzf hi2)
   have hk1 : isB k = true := hk.1
   have hk2 : 1 ≤ v := hk.2
   have hP2 := h.takeN (i + 1)
   rw [zvg hi2] at hP2
   have hs := zhz hP2.srt v v
   have hd := zqp hk1
   have h0 : zan k (l.take i) = 0 := by unfold zan; rw [hs.2.1]; rfl
   have ht : tyQ k.d (l.take i ++ [(k, v)]) = tyQ k.d (l.take i) + v := by
    have := zk1 (f := fun j => j.d == k.d) (k := k) (v := v) hP.srt
    rw [hs.1, h0, if_pos (by simp)] at this
    show zd4 _ _ = zd4 _ _ + v
    rw [this]; omega
   have htop := hP2.top k.d
   have hn : 0 ≤ tyQ k.d (l.take i) := zk2 hP.nn
   rw [zah (r := eT (k, v)) (by omega) (by rw [zzs, zzg, hi2]; rfl)]
   simp only [eT, ug0, ugs, zbo]
   refine zxy (k := k) ?_
   rw [hk1, zbk]
   refine zfn (cIf (fun _ => zfn (cIf (fun _ => ?_) fun h => by omega)) fun h => by omega)
   refine tputB_S (k := k) (v := v) (a := zfl (l.take i)) hP.srt (by rw [zz9]; omega) ?_
   rw [hs.2.1, hs.1, post_Bk]
   refine zfn ?_
   show 0 ≤ k.d ∧ k.d < (33 : Int) ∧ _
   refine ⟨by omega, by omega, ?_⟩
   rw [zah (r := tyQ k.d (l.take i)) (by omega) (zdn _ (by omega)), w64 (x := tyQ k.d (l.take i) + v) (by omega) (by omega)]
   refine cIf (fun h => by omega) fun _ => ⟨by omega, by omega, ?_⟩
   have e := zrf (n := v) hP hk1 (by omega) (by omega)
   rw [h0, Int.zero_add] at e
   unfold aset ze1 at e
   rw [zdn _ (by omega), z0j, w64 (x := tyQ k.d (l.take i) + v) (by omega) (by omega), if_neg (by omega), hs.1] at e
   have ew : zy5 .i64 ((i : Int) + 1) = ((i + 1 : Nat) : Int) := w64n (by omega)
   rw [e, ew, ← zvg hi2]
   exact ⟨⟨i + 1, by first | trivial | rfl, rfl, by omega, rfl, rfl⟩, by omega⟩
 · have : i = l.length := by omega
   subst this
   rw [z0m]
   exact K
theorem qnew_S : PRun Tryz.prog 26 [] [.i 256] fun x m => x = .t [.r 0 0, .i 0] ∧ m = [.c [.nl 3, .m 1, .i 256, .i 1], .p .n 1 false []] :=
 S26 ⟨rfl, rfl⟩
end
section
set_option maxRecDepth 1000000
variable {Q : V → Mem → Prop}
def vO (id : Int) : Int := 1048576 + id
theorem mixJb : Tryz.prog.follows .mixedOrders = true := by kernel_rfl
theorem zqa {id : Int} (h : 1 ≤ id ∧ id < 1048576) (k : Q (.t [.i (vO id), .i 0]) []) : PRun Tryz.prog 189 [] [.i 1, .i id] Q := by
 refine S189 (above_S ?_)
 rw [if_pos rfl, zaw]
 refine cEq (fun h => absurd h (by decide)) fun _ => cIf (fun h1 => by omega) fun _ => cIf (fun h1 => by omega) fun _ => ?_
 rw [w64 (by omega) (by omega)]
 exact k
end
section
set_option maxRecDepth 100000
theorem zxc : Tryz.prog.follows .mixedOrders = true := by kernel_rfl
theorem S297 {n : List Int} {k l : Int} (hh : PRun Tryz.prog 277 [] [.l 5 c, q16 j k l 1, .f 278 [] []] (post q12 [] (fun a o => (PRun Tryz.prog 277 [] [.l 5 c, q16 j k l 33, .f 278 [] []] (post q12 [] (fun b p => (0 ≤ a ∧ (a ≤ (if b > a then b else a) ∧ (if b > a then b else a) ≤ (zy6 c : Int) ∧ (∃ (g : Int → List (List U) → Prop) (m : Int → List (List U) → Nat), g 0 [] ∧ (∀ d : Int, ∀ e : List (List U), g d e → (bif decide (d < (zy6 (List.drop (zy8 a) (List.take (zy8 (if b > a then b else a)) c)) : Int)) then elL (List.drop (zy8 a) (List.take (zy8 (if b > a then b else a)) c)) d (fun f => dI .i64 (ug f 0) (fun q => dI .i64 (ug f 1) (fun r => dI .i64 (ug f 2) (fun s => dI .i64 (ug f 3) (fun h => dI .i64 (ug f 4) (fun i => zak e [[.n h, .n i]] ∧ (g (zy5 .i64 (d + 1)) (e ++ [[.n h, .n i]]) ∧ m (zy5 .i64 (d + 1)) (e ++ [[.n h, .n i]]) < m d e))))))) else Q (.l 2 e) (q15 c n))))) : Prop))) : Prop)))) : PRun Tryz.prog 297 (q15 c n) [.r 0 0, q16 j k l t] Q :=
 zad zxc Tryz.func297 (by kernel_rfl) (H := ⟨[((330, 1, 10), ⟨[(7, .I)], [(2, .c [.ow 112 2])]⟩)], [], [78, 175, 263, 264, 330, 341, 346], [], [], false, 64, KN.no, false, SP.no⟩) (n := 5) (by kernel_rfl) hh
theorem S194 (hh : Q (q16 a 0 b 1) []) : PRun Tryz.prog 194 [] [.i a, .i b] Q :=
 zad zxc Tryz.func194 (by kernel_rfl) (H := ⟨[], [], [], [], [], false, 64, KN.no, false, SP.no⟩) (n := 2) (by kernel_rfl) hh
theorem S296 (hh : bif decide (a ≥ 1) then Q (.u (.b (decide (a ≤ 8)))) [] else Q (.u (.b false)) []) : PRun Tryz.prog 296 [] [.i a] Q :=
 zad zxc Tryz.func296 (by kernel_rfl) (H := ⟨[], [], [], [], [], false, 64, KN.no, false, SP.no⟩) (n := 2) (by kernel_rfl) hh
theorem S204 {d : List (List U)} {e : List Int} {o : Int} (hh : PRun Tryz.prog 189 [] [.i n, .i o] (post q10 [] (fun i p => (bif p != 0 then Q (.t [.l 2 [], .i 1]) (q15 d e) else PRun Tryz.prog 296 [] [.i f] (post [.B] [] (fun q => (bif !q then Q (.t [.l 2 [], .i 1]) (q15 d e) else PRun Tryz.prog 194 [] [.i i, .i f] (post [.agg [.i .i64, .i .i64, .i .i64, .i .i64]] [] (fun r s t u => (PRun Tryz.prog 297 (q15 d e) [.r 0 0, q16 r s t u] (post [.L 2] q3 (fun g v w => ∃ (h : Int → List (List U) → List Int → Prop) (j : Int → List (List U) → List Int → Nat), h 0 v w ∧ (∀ a : Int, ∀ b : List (List U), ∀ c : List Int, h a b c → (bif decide (a < (zy6 g : Int)) then elL g a (fun k => dI .i64 (ug k 0) (fun x => dI .i64 (ug k 1) (fun y => PRun Tryz.prog 194 [] [.i i, .i f] (post [.agg [.i .i64, .i .i64, .i .i64, .i .i64]] [] (fun α β γ δ => (PRun Tryz.prog 291 (q15 b c) [.r 0 0, q16 α β γ x, .i y] (post q7 q3 (fun ε l m => (h (zy5 .i64 (a + 1)) l m ∧ j (zy5 .i64 (a + 1)) l m < j a b c : Prop))) : Prop)))))) else Q (.t [.l 2 g, .i 0]) (q15 b c))))) : Prop))) : Prop))) : Prop)))) : PRun Tryz.prog 204 (q15 d e) [.r 0 0, .i n, .i o, .i f] Q :=
 zad zxc Tryz.func204 (by kernel_rfl) (H := ⟨[((204, 6, 1), ⟨[(40, .I)], [(0, .c [.l 5, .n 33])]⟩)], [], [], [], [], false, 64, KN.no, false, SP.no⟩) (n := 2) (by kernel_rfl) hh
theorem S109 {f : List Int} {w l m ζ : Int} (hh : bif i != l then Q (.i 1) (q15 e f) else PRun Tryz.prog 205 (q15 e f) [.r 0 0, q16 m n i 1, .i 0] (post q7 q3 (fun u γ δ => (bif u != 0 then Q (.i 1) (q15 e f) else PRun Tryz.prog 204 (q15 e f) [.r 0 0, .i v, .i w, .i l] (post [.L 2, .I] q3 (fun o x y α => ∃ (j : Int → List (List U) → List Int → Int → Int → Int → Int → Prop) (p : Int → List (List U) → List Int → Int → Int → Int → Int → Nat), j 0 y α m n i 1 ∧ (∀ a : Int, ∀ g : List (List U), ∀ h : List Int, ∀ b c d q : Int, j a g h b c d q → (bif decide (a < (zy6 o : Int)) then elL o a (fun r => dI .i64 (ug r 0) (fun k => dI .i64 (ug r 1) (fun β => PRun Tryz.prog 205 (q15 g h) [.r 0 0, q16 b c d k, .i β] (post q7 q3 (fun ε s t => (j (zy5 .i64 (a + 1)) s t b c d k ∧ p (zy5 .i64 (a + 1)) s t b c d k < p a g h b c d q : Prop)))))) else Q (.i x) (q15 g h))))) : Prop)))) : PRun Tryz.prog 109 (q15 e f) [.r 0 0, .i v, .i w, .i l, q16 m n i ζ] Q :=
 zad zxc Tryz.func109 (by kernel_rfl) (H := ⟨[((109, 6, 3), ⟨[(37, .I)], [(0, .c [.l 5, .n 33]), (1, .c [.i .i64, .i .i64, .i .i64, .i .i64])]⟩)], [], [215], [], [], false, 64, KN.no, false, SP.no⟩) (n := 3) (by kernel_rfl) hh
end
section
set_option maxRecDepth 1000000
variable {Q : V → Mem → Prop}
def zhr (x k : K4) : Bool := k.a == x.a && (k.b == x.b && k.c == x.c)
def zha (x : K4) (l : Tb) : List Stk := (l.filter fun r => zhr x r.1).map fun r => (r.1.d, r.2)
theorem inDv_iff : zhr x k = true ↔ k = bin x k.d := by
 unfold zhr
 simp only [zy9, beq_iff_eq]
 constructor
 · rintro ⟨h1, h2, h3⟩; exact K4.ext' h1 h2 h3 rfl
 · intro h; rw [h]; exact ⟨rfl, rfl, rfl⟩
theorem znw {k : K4} : ∀ {l : Tb}, Srt l → l.take (za7 k l) = l.filter fun r => decide (r.1.lt k)
 | [], _ => rfl
 | r :: l, hs => by
   simp only [za7]
   by_cases h : r.1.lt k
   · rw [if_pos h, List.take_succ_cons, znw hs.tail, z17 (by simpa using h)]
   · rw [if_neg h, List.take_zero, z1h (by simpa using h)]
     symm
     refine z3u.2 fun s hs' => ?_
     have := hs.head s hs'
     simp only [decide_eq_true_eq]
     exact fun h2 => h (this.trans h2)
theorem zo6 {k : K4} : ∀ {l : Tb}, Srt l → l.drop (za7 k l) = l.filter fun r => !decide (r.1.lt k)
 | [], _ => rfl
 | r :: l, hs => by
   simp only [za7]
   by_cases h : r.1.lt k
   · rw [if_pos h, List.drop_succ_cons, zo6 hs.tail, z1h (by simpa using h)]
   · rw [if_neg h, z1k]
     symm
     refine z2k.2 fun s hs' => ?_
     simp only [zz5, decide_eq_false_iff_not]
     rcases zze.1 hs' with rfl | hs'
     · exact h
     · exact fun h2 => h ((hs.head s hs').trans h2)
theorem zvd {j : K4} (hs : Srt l) (h : j.lt k) : za7 j l ≤ za7 k l := by
 rcases z01 (za7 k l) (za7 j l) with h1 | h1
 · have h2 := zh1 j l
   have hr := zzb (l := l) (show za7 k l < l.length by omega)
   exact absurd ((zpt h1 hr).trans h) (zpu hs (zzk _) hr)
 · exact h1
theorem Srt.filter (hs : Srt l) (p : K4 × Int → Bool) : Srt (l.filter p) := List.Pairwise.filter _ hs
theorem zh2 {j k : K4} : ∀ {l : Tb}, Srt l → j.lt k → za7 j (l.filter fun r => decide (r.1.lt k)) = za7 j l
 | [], _, _ => rfl
 | r :: l, hs, hjk => by
   by_cases h : r.1.lt k
   · rw [z17 (by simpa using h)]
     simp only [za7]
     rw [zh2 hs.tail hjk]
   · have hj : ¬ r.1.lt j := fun h2 => h (h2.trans hjk)
     rw [z1h (by simpa using h)]
     have e : (l.filter fun r => decide (r.1.lt k)) = [] := z3u.2 fun s hs' => by
      simp only [decide_eq_true_eq]
      exact fun h2 => h ((hs.head s hs').trans h2)
     rw [e]
     simp only [za7]
     rw [if_neg hj]
theorem slice_dv (h : BInv l) : (l.take (za7 (bin x 33) l)).drop (za7 (bin x 1) l) = l.filter fun r => zhr x r.1 := by
 have hlt : (bin x 1).lt (bin x 33) := by unfold K4.lt; simp
 rw [znw h.srt, ← zh2 h.srt hlt, zo6 (h.srt.filter _), List.filter_filter]
 refine List.filter_congr fun r hr => ?_
 have hd := zqp (h.key r hr).1
 have h1 : decide (r.1.lt (bin x 1)) = decide (r.1.a < x.a ∨ (r.1.a = x.a ∧ (r.1.b < x.b ∨ (r.1.b = x.b ∧ (r.1.c < x.c ∨ (r.1.c = x.c ∧ r.1.d < 1)))))) := decide_eq_decide.2 Iff.rfl
 have h2 : decide (r.1.lt (bin x 33)) = decide (r.1.a < x.a ∨ (r.1.a = x.a ∧ (r.1.b < x.b ∨ (r.1.b = x.b ∧ (r.1.c < x.c ∨ (r.1.c = x.c ∧ r.1.d < 33)))))) := decide_eq_decide.2 Iff.rfl
 rw [h1, h2, Bool.eq_iff_iff]
 simp only [zhr, zy9, zz5, decide_eq_true_eq, decide_eq_false_iff_not, beq_iff_eq]
 constructor
 · intro h; omega
 · intro h; omega
theorem of_B (h : BInv l) (hl : l.length ≤ 900000) (K : Q (.l 2 ((zha x l).map eS)) [bK l]) : PRun Tryz.prog 297 [bK l] [.r 0 0, kV x] Q := by
 have hlt : (bin x 1).lt (bin x 33) := by unfold K4.lt; simp
 have hm := zvd h.srt hlt
 have hle := zh1 (bin x 33) l
 refine S297 (zbw (k := bin x 1) h.srt (by omega) ?_)
 show PRun _ _ _ _ _
 refine zbw (k := bin x 33) h.srt (by omega) ?_
 show (0 : Int) ≤ ((za7 (bin x 1) l : Nat) : Int) ∧ _
 have emax : (if ((za7 (bin x 33) l : Nat) : Int) > ((za7 (bin x 1) l : Nat) : Int) then ((za7 (bin x 33) l : Nat) : Int) else ((za7 (bin x 1) l : Nat) : Int)) = ((za7 (bin x 33) l : Nat) : Int) := by
  split <;> omega
 rw [emax]
 have ers : List.drop (zy8 ((za7 (bin x 1) l : Nat) : Int)) (List.take (zy8 ((za7 (bin x 33) l : Nat) : Int)) (l.map eT)) = (l.filter fun r => zhr x r.1).map eT := by
  rw [zzs, zzs, ← slice_dv h, z1s, z1e]
 rw [ers]
 have hfl : (l.filter fun r => zhr x r.1).length ≤ l.length := z0n _ _
 have hlen : (((l.filter fun r => zhr x r.1).map eT).length : Int) = ((l.filter fun r => zhr x r.1).length : Int) := by rw [zzc]
 refine ⟨by omega, by omega, by rw [zzc]; omega, ?_⟩
 unfold zha at K
 generalize l.filter (fun r => zhr x r.1) = f at *
 refine ⟨fun y o => ∃ i : Nat, y = (i : Int) ∧ i ≤ f.length ∧ o = ((f.take i).map fun r => (r.1.d, r.2)).map eS, fun y _ => (f.length - y).toNat, ⟨0, rfl, zz3 _, rfl⟩, ?_⟩
 rintro _ _ ⟨i, rfl, hi, rfl⟩
 rw [hlen]
 refine cIf (fun hc => ?_) fun hc => ?_
 · have hlt : i < f.length := by omega
   rw [zah (r := eT f[i]) (by omega) (by simp [hlt])]
   simp only [eT, ug0, ugs, zbo]
   have e1 : zy5 .i64 ((i : Int) + 1) = ((i + 1 : Nat) : Int) := by rw [w64 (by omega) (by omega)]; omega
   rw [e1]
   have e2 : ((f.take i).map fun r => (r.1.d, r.2)).map eS ++ [[.n f[i].1.d, .n f[i].2]] = ((f.take (i + 1)).map fun r => (r.1.d, r.2)).map eS := by
    rw [z18 hlt, zz2, zz2]
    rfl
   refine ⟨?_, ⟨i + 1, rfl, by omega, e2⟩, by omega⟩
   unfold zak
   simp
   omega
 · have : i = f.length := by omega
   subst this
   rw [z0m]
   exact K
theorem zmr {s : Stk} (h : s ∈ zha x l) : (bin x s.1, s.2) ∈ l := by
 obtain ⟨r, hr, rfl⟩ := zz6.1 h
 obtain ⟨h1, h2⟩ := z0r.1 hr
 have := inDv_iff.1 h2
 show (bin x r.1.d, r.2) ∈ l
 rw [← this]
 exact h1
theorem lieL_of (h : (bin x t, v) ∈ l) : (t, v) ∈ zha x l :=
 zz6.2 ⟨(bin x t, v), z0r.2 ⟨h, inDv_iff.2 rfl⟩, rfl⟩
theorem zxj (hs : Srt l) : (zha x l).Pairwise fun a b => a.1 < b.1 := by
 unfold zha
 rw [z19]
 refine (List.Pairwise.and_mem.1 (hs.filter fun r => zhr x r.1)).imp ?_
 rintro a b ⟨ha, hb, hab⟩
 have h1 := inDv_iff.1 (z0r.1 ha).2
 have h2 := inDv_iff.1 (z0r.1 hb).2
 rw [h1, h2] at hab
 unfold K4.lt at hab
 simp only at hab
 omega
def rmv (x : K4) (l : Tb) : Tb := l.filter fun r => !zhr x r.1
theorem zh5 {p : K4 → Bool} {k : K4} : ∀ {l : Tb}, Srt l → zau k (l.filter fun r => p r.1) = if p k then zau k l else none
 | [], _ => by simp [zau]
 | r :: l, hs => by
   have ih := zh5 (p := p) (k := k) hs.tail
   by_cases hp : p r.1
   · rw [z17 (p := fun r : K4 × Int => p r.1) hp]
     simp only [zau]
     by_cases e : r.1 = k
     · rw [if_pos e, if_pos e, if_pos (by rw [← e]; exact hp)]
     · rw [if_neg e, if_neg e, ih]
   · rw [z1h (p := fun r : K4 × Int => p r.1) hp, ih]
     simp only [zau]
     by_cases e : r.1 = k
     · rw [if_neg (by rw [← e]; exact hp), if_neg (by rw [← e]; exact hp)]
     · rw [if_neg e]
theorem rmv_get (hs : Srt l) : zau k (rmv x l) = if zhr x k then none else zau k l := by
 unfold rmv
 rw [zh5 (p := fun k => !zhr x k) hs]
 cases zhr x k <;> rfl
theorem Srt.ext : ∀ {l m : Tb}, Srt l → Srt m → (∀ k, zau k l = zau k m) → l = m
 | [], [], _, _, _ => rfl
 | [], r :: m, _, _, h => by
   have := h r.1
   simp [zau] at this
 | r :: l, [], _, _, h => by
   have := h r.1
   simp [zau] at this
 | r :: l, q :: m, hl, hm, h => by
   have h1 : zau r.1 (q :: m) = some r.2 := by rw [← h]; simp [zau]
   have h2 : zau q.1 (r :: l) = some q.2 := by rw [h]; simp [zau]
   have e : r.1 = q.1 := by
    rcases K4.tri r.1 q.1 with h3 | h3 | h3
    · have h4 := zeo h1
      rcases zze.1 h4 with h5 | h5
      · have : r.1 = q.1 := congrArg Prod.fst h5
        exact this
      · exact absurd ((hm.head _ h5).trans h3) (K4.irr _)
    · exact h3
    · have h4 := zeo h2
      rcases zze.1 h4 with h5 | h5
      · exact (congrArg Prod.fst h5).symm
      · exact absurd ((hl.head _ h5).trans h3) (K4.irr _)
   have e2 : r.2 = q.2 := by
    have := h r.1
    simp only [zau, if_true] at this
    rw [if_pos e.symm] at this
    simpa using this
   have er : r = q := Prod.ext e e2
   subst er
   rw [Srt.ext hl.tail hm.tail fun k => ?_]
   have := h k
   simp only [zau] at this
   by_cases ek : r.1 = k
   · subst ek
     rw [zh3 fun s hs e3 => by have := hl.head s hs; rw [e3] at this; exact K4.irr _ this, zh3 fun s hs e3 => by have := hm.head s hs; rw [e3] at this; exact K4.irr _ this]
   · rw [if_neg ek, if_neg ek] at this
     exact this
theorem zu0 {f : K4 → Bool} {p : K4 × Int → Bool} : ∀ {l : Tb}, (∀ r ∈ l, 0 ≤ r.2) → zd4 f (l.filter p) ≤ zd4 f l
 | [], _ => zzw _
 | r :: l, h => by
   have h1 := h r zz1
   have ih := zu0 (f := f) (p := p) (l := l) fun s hs => h s (zzy _ hs)
   by_cases hp : p r
   · rw [z17 hp]; simp only [zd4]; omega
   · rw [z1h hp]; simp only [zd4]; split <;> omega
theorem BInv.rmv (h : BInv l) (x : K4) : BInv (rmv x l) where
 srt := h.srt.filter _
 key r hr := h.key r (z0r.1 hr).1
 top d := by
  have := h.top d
  have h2 := zu0 (f := fun k => k.d == d) (p := fun r => !zhr x r.1) h.nn
  unfold tyQ at *
  exact Int.le_trans h2 this
theorem at_S {o : Int} (k : Q (.a [.i o, .i 0, .i p, .i 1]) []) : PRun Tryz.prog 194 [] [.i o, .i p] Q := S194 k
theorem zxv (k : Q (.u (.b (decide (p ≥ 1) && decide (p ≤ 8)))) []) : PRun Tryz.prog 296 [] [.i p] Q := by
 refine S296 ?_
 generalize hk : (fun b => Q (.u (.b b)) []) = q
 have e : ∀ b, Q (.u (.b b)) [] = q b := fun b => by rw [← hk]
 rw [e] at k
 simp only [e]
 exact zos k fun h => h
abbrev vK (id place : Int) : K4 := ⟨vO id, 0, place, 1⟩
theorem zo9 {id place : Int} (h : BInv l) (hl : l.length ≤ 900000) (hid : 1 ≤ id ∧ id < 1048576) (hp : 1 ≤ place ∧ place ≤ 8)
 (K : Q (.t [.l 2 ((zha (vK id place) l).map eS), .i 0]) [bK (rmv (vK id place) l)]) : PRun Tryz.prog 204 [bK l] [.r 0 0, .i 1, .i id, .i place] Q := by
 refine S204 (zqa hid ?_)
 rw [zb5]
 refine cNe (fun h => absurd rfl h) fun _ => zxv ?_
 rw [zbk, decide_eq_true (show place ≥ 1 from hp.1), decide_eq_true (show place ≤ 8 from hp.2)]
 simp only [Bool.and_self, z0p, cond_false]
 refine at_S ?_
 show PRun _ _ _ _ _
 refine of_B (x := vK id place) h hl ?_
 have hno : (zha (vK id place) l).length ≤ l.length := by unfold zha; rw [zzc]; exact z0n _ _
 show (∃ (I1 : Int → List (List U) → List Int → Prop) (f1 : Int → List (List U) → List Int → Nat), _)
 refine ⟨fun x l' a' => SufI (zha (vK id place) l) (fun r => ∃ lt, lt.map eT = l' ∧ zfl lt = a' ∧ BInv lt ∧ lt.length ≤ l.length ∧ (∀ s ∈ r, s ∈ zha (vK id place) l) ∧ (r.Pairwise fun a b => a.1 < b.1) ∧ ∀ k, zau k lt = if zhr (vK id place) k ∧ ∀ s ∈ r, s.1 ≠ k.d then none else zau k l) x, fun x _ _ => zpl (zha (vK id place) l) x, .zero (by omega) ⟨l, rfl, rfl, h, zzk _, fun s hs => hs, zxj h.srt, fun k => ?_⟩, ?_⟩
 · split
   · rename_i hk
     cases hg : zau k l with
     | none => rfl
     | some v =>
       have hm := zeo hg
       rw [inDv_iff.1 hk.1] at hm
       exact absurd rfl (hk.2 _ (lieL_of hm))
   · rfl
 rintro x _ _ ⟨r, s, lt, rfl, rfl, hi, hln, hsub, hpw, hget⟩
 cases r with
 | nil =>
   rw [s.d0, cond_false]
   have e : lt = rmv (vK id place) l := by
    refine Srt.ext hi.srt (h.srt.filter _) fun k => ?_
    rw [hget, rmv_get h.srt]
    simp
   rw [← e] at K
   exact K
 | cons q r =>
   simp only [s.d1, s.el, eS, ug0, ugs, zbo, cond_true]
   refine at_S ?_
   show PRun _ _ _ _ _
   have hq := hsub q zz1
   have hm := zmr hq
   have hk := h.key _ hm
   have hgq : zau (bin (vK id place) q.1) lt = some q.2 := by
    rw [hget, if_neg]
    · exact zh4 h.srt hm
    · rintro ⟨-, hh⟩; exact hh q zz1 rfl
   have hvq : zan (bin (vK id place) q.1) lt = q.2 := by unfold zan; rw [hgq]; rfl
   refine take_B (k := bin (vK id place) q.1) hi (by omega) (fun hb => ?_) (fun _ _ hb => ?_) fun _ _ hb => ?_
   · rcases hb with hb | hb
     · rw [hk.1] at hb; cases hb
     · have := hk.2; omega
   · omega
   · rw [hvq, show q.2 + -q.2 = 0 by omega]
     have e0 : ze1 (bin (vK id place) q.1) 0 lt = zj7 (bin (vK id place) q.1) lt := by unfold ze1; rw [if_pos rfl]
     rw [e0]
     have hi2 : BInv (zj7 (bin (vK id place) q.1) lt) := by
      have := hi.set (k := bin (vK id place) q.1) (n := -q.2) hk.1 (by omega) (by have := hi.top q.1; have := hk.2; simp only; omega)
      rwa [hvq, show q.2 + -q.2 = 0 by omega, e0] at this
     have hpw2 := z0h.1 hpw
     refine s.step ⟨_, by first | trivial | rfl, by first | trivial | rfl, hi2, by have := zlw (k := bin (vK id place) q.1) (l := lt); omega, fun t ht => hsub t (zzy _ ht), hpw2.2, fun k => ?_⟩
     rw [zlx _ hi.srt, hget]
     by_cases ek : k = bin (vK id place) q.1
     · subst ek
       rw [if_pos rfl, if_pos]
       refine ⟨inDv_iff.2 rfl, fun t ht e => ?_⟩
       have := hpw2.1 t ht
       have e' : t.1 = q.1 := e
       omega
     · rw [if_neg ek]
       by_cases hc : zhr (vK id place) k = true ∧ ∀ t ∈ r, t.1 ≠ k.d
       · rw [if_pos hc, if_pos]
         refine ⟨hc.1, fun t ht => ?_⟩
         rcases zze.1 ht with rfl | ht
         · exact fun e => ek (by rw [inDv_iff.1 hc.1, e])
         · exact hc.2 t ht
       · rw [if_neg hc, if_neg]
         exact fun h2 => hc ⟨h2.1, fun t ht => h2.2 t (zzy _ ht)⟩
end
section
set_option maxRecDepth 100000
theorem mixTn5 : Tryz.prog.follows .mixedOrders = true := by kernel_rfl
theorem S163 {c : Int} (hh : bif decide (a < 0) then Q (.t [.u (.p none), .i 1]) [] else (bif decide (a > 8) then Q (.t [.u (.p none), .i 1]) [] else zak [] [[.n a, .l 1 [], .l 1 []]] ∧ (zak [[.n a, .l 1 [], .l 1 []]] [[.n 1, .l 1 [], .l 1 []]] ∧ (zak [[.n a, .l 1 [], .l 1 []], [.n 1, .l 1 [], .l 1 []]] [[.n 1, .l 1 [], .l 1 []]] ∧ (bif decide (b < 0) then Q (.t [.u (.p none), .i 1]) [] else (bif decide (b > 8) then Q (.t [.u (.p none), .i 1]) [] else zak [[.n a, .l 1 [], .l 1 []], [.n 1, .l 1 [], .l 1 []], [.n 1, .l 1 [], .l 1 []]] [[.n b, .l 1 [], .l 1 []]] ∧ (Q (.t [.r 0 0, .i 0]) [.c [.w 1, .m 2], .w 270 3 [[.n a, .l 1 [], .l 1 []], [.n 1, .l 1 [], .l 1 []], [.n 1, .l 1 [], .l 1 []], [.n b, .l 1 [], .l 1 []]], .p .n 1 false []]))))))) : PRun Tryz.prog 163 [] [.l 4 [[.n 1, .n a, .n 1, .n 1000], [.n c, .n 1, .n b, .n 0]]] Q :=
 zad mixTn5 Tryz.func163 (by kernel_rfl) (H := ⟨[], [], [], [], [], true, 64, KN.no, false, SP.no⟩) (n := 2) (by kernel_rfl) hh
end
section
variable {Q : V → Mem → Prop}
theorem apOk_l {a b : List (List U)} (h : a.length + b.length ≤ 1000000) : zak a b := h
end
section
set_option maxRecDepth 100000
theorem mixTa3 : Tryz.prog.follows .mixedOrders = true := by kernel_rfl
theorem S333 {i : List (List U)} {u : Int} (hh : ∀ h : Prop, ((∃ (f : Bool → Int → List (MK × List U) → Prop) (d : Bool → Int → List (MK × List U) → Nat), f false 0 [] ∧ (∀ e : Bool, ∀ a : Int, ∀ b : List (MK × List U), f e a b → (bif decide (a < (zy6 i : Int)) then elL i a (fun m => dI .i64 (ug m 0) (fun c => dI .i64 (ug m 1) (fun n => mO (zbs b (.n c)) (fun q => (dI .i64 (ug q 0) (fun r => PRun Tryz.prog 173 [] [.i r, .i n] (post q10 [] (fun j s => (bif s != 0 then f true (zy5 .i64 (a + 1)) (za3 b (.n c) [.n 1125899906842624]) ∧ d true (zy5 .i64 (a + 1)) (za3 b (.n c) [.n 1125899906842624]) < d e a b else (bif decide (j > 1125899906842624) then f true (zy5 .i64 (a + 1)) (za3 b (.n c) [.n 1125899906842624]) ∧ d true (zy5 .i64 (a + 1)) (za3 b (.n c) [.n 1125899906842624]) < d e a b else f e (zy5 .i64 (a + 1)) (za3 b (.n c) [.n j]) ∧ d e (zy5 .i64 (a + 1)) (za3 b (.n c) [.n j]) < d e a b) : Prop)))) : Prop)) (PRun Tryz.prog 173 [] [.i 0, .i n] (post q10 [] (fun k t => (bif t != 0 then f true (zy5 .i64 (a + 1)) (za3 b (.n c) [.n 1125899906842624]) ∧ d true (zy5 .i64 (a + 1)) (za3 b (.n c) [.n 1125899906842624]) < d e a b else (bif decide (k > 1125899906842624) then f true (zy5 .i64 (a + 1)) (za3 b (.n c) [.n 1125899906842624]) ∧ d true (zy5 .i64 (a + 1)) (za3 b (.n c) [.n 1125899906842624]) < d e a b else f e (zy5 .i64 (a + 1)) (za3 b (.n c) [.n k]) ∧ d e (zy5 .i64 (a + 1)) (za3 b (.n c) [.n k]) < d e a b) : Prop))))))) else (bif e then Q (.i 0) [] else mO (zbs b (.n u)) (fun v => (dI .i64 (ug v 0) (fun w => Q (.i w) []) : Prop)) (Q (.i 0) []))))) → h) → ∃ (l : Int → Prop) (o : Int → Nat), l 0 ∧ (∀ g : Int, l g → (bif decide (g < (zy6 i : Int)) then elL i g (fun p => dI .i64 (ug p 0) (fun x => dI .i64 (ug p 1) (fun y => (bif decide (x < 1) then (bif decide (g ≥ 0) then Q (.i 0) [] else h) else (bif decide (y < 0) then (bif decide (g ≥ 0) then Q (.i 0) [] else h) else l (zy5 .i64 (g + 1)) ∧ o (zy5 .i64 (g + 1)) < o g))))) else h))) : PRun Tryz.prog 333 [] [.l 2 i, .i u] Q :=
 zad mixTa3 Tryz.func333 (by kernel_rfl) (H := ⟨[((367, 6, 1), ⟨[(5, .B), (15, .I)], [(0, .mp .n 1 false)]⟩), ((385, 2, 0), ⟨[(8, .I)], []⟩)], [((367, 3, 0), ⟨[], []⟩)], [367, 381, 382, 385], [], [], false, 64, KN.no, false, SP.no⟩) (n := 6) (by kernel_rfl) hh
end
def zux (l : List Stk) (k : Int) : Int := if errN l = 0 then tot l k else 0
theorem PRun.keep {g : FuncId} {args : List V} 
 (hh : ∀ (D : Fz) (C : List zac) (h : zaf) (vs : List Value), St D C h → RpL D [] vs args → Run P g vs h fun v h' => Keep h h' ∧ ∃ x, Rp D [] v x ∧ Q x []) : PRun P g [] args Q := by
 intro D ρ chs C h vs M F
 have h1 : ρ = [] := z0v M.len
 have h2 : chs = [] := z0v M.lch
 subst h1; subst h2
 refine (hh D C h vs (by simpa using M.st) F).mono ?_
 rintro v h' ⟨k, x, hx, hQ⟩
 exact ⟨D, [], [], x, [], .refl _, ⟨rfl, rfl, fun i L ab ch h => (by simp at h), by simpa using (show St D C h by simpa using M.st).keep k⟩, hx, hQ⟩
theorem RpL.two {D : Fz} {ρ : List Loc} {x y : V} (h : RpL D ρ vs [x, y]) : ∃ v w, vs = [v, w] ∧ Rp D ρ v x ∧ Rp D ρ w y := by
 cases h with | cons a b => cases b with | cons b c => cases c; exact ⟨_, _, rfl, a, b⟩
theorem Rp.u_inv {D : Fz} {ρ : List Loc} {v : Value} {x : U} (h : Rp D ρ v (.u x)) : Rd D v x := by cases h; assumption
theorem addC_S (ha : 0 ≤ a ∧ a ≤ zjn) (hb : 0 ≤ b ∧ b ≤ 9223372036854775807) (k1 : zjn < a + b → Q (.t [.i 0, .i 5]) []) (k2 : Q (.t [.i (a + b), .i 0]) []) : PRun Tryz.prog 173 [] [.i a, .i b] Q := by
 unfold zjn at *
 refine S173 ?_
 rw [decide_eq_true (show a ≥ 0 from ha.1), decide_eq_true (show b ≥ 0 from hb.1)]
 by_cases h : a + b ≤ 9223372036854775807
 · rw [w64 (x := a + b) (by omega) h, decide_eq_true (show a + b ≥ 0 by omega)]
   exact k2
 · have : ¬ zy5 .i64 (a + b) ≥ 0 := by
    have hb : (2 ^ IntKind.i64.bits : Int) = 18446744073709551616 := by decide
    have hb1 : (2 ^ (IntKind.i64.bits - 1) : Int) = 9223372036854775808 := by decide
    simp only [zy5, IntKind.signed, hb, hb1, Bool.true_and, decide_eq_true_eq, ge_iff_le]
    split <;> omega
   rw [decide_eq_false this]
   exact k1 (by omega)
def CntI (l : List Stk) (b : Bool) (i : Nat) (m : List (MK × List U)) : Prop := (b = true → over l) ∧ (b = false → ∀ k, zbs m (.n k) = (if k ∈ (l.take i).map (·.1) then some [.n (tot (l.take i) k)] else none)) ∧ ∀ k r, zbs m (.n k) = some r → ∃ x, r = [U.n x] ∧ 0 ≤ x ∧ x ≤ zjn
theorem tot_le {l : List Stk} (h : zua l) (i : Nat) (k : Int) : tot (l.take i) k ≤ tot l k := by
 have e := zgd (l.take i) (l.drop i) k
 rw [z0t] at e
 have := ztj (l := l.drop i) (fun s hs => h s (z14 hs)) k
 omega
theorem CntI.step {l : List Stk} {b : Bool} {i : Nat} {q x : Int} (h : CntI l b i m) (hi : l[i]? = some (t, q)) (hx : b = false → x = tot (l.take i) t) (hb : 0 ≤ x + q ∧ x + q ≤ zjn) : CntI l b (i + 1) (za3 m (.n t) [.n (x + q)]) := by
 refine ⟨h.1, fun hf k => ?_, fun k r hr => ?_⟩
 · have e : l.take (i + 1) = l.take i ++ [(t, q)] := by rw [z1g, hi]; rfl
   rw [za8, e, zz2, zgd, h.2.1 hf k]
   by_cases hk : t = k
   · subst hk
     rw [if_pos rfl, if_pos (by simp), hx hf]
     simp [tot]
   · rw [if_neg (fun h => hk (by cases h; rfl))]
     have : (k ∈ (l.take i).map (·.1) ++ [(t, q)].map (·.1)) ↔ k ∈ (l.take i).map (·.1) := by simp [Ne.symm hk]
     simp only [this, tot, if_neg hk, Int.add_zero]
 · rw [za8] at hr
   split at hr
   · cases hr; exact ⟨_, rfl, hb⟩
   · exact h.2.2 k r hr
theorem CntI.full {l : List Stk} {b : Bool} {i : Nat} (h : CntI l b i m) (ho : over l) : CntI l true (i + 1) (za3 m (.n t) [.n 1125899906842624]) := by
 refine ⟨fun _ => ho, by simp, fun k r hr => ?_⟩
 rw [za8] at hr
 split at hr
 · cases hr; exact ⟨_, rfl, by decide, by decide⟩
 · exact h.2.2 k r hr
theorem pCount_S {x : Int} (hr : rng L) (hL : L.length ≤ 1000) (k : Q (.i (zux L x)) []) : PRun Tryz.prog 333 [] [.l 2 (L.map eS), .i x] Q := by
 have bad : ¬ zua L → Q (.i 0) [] := fun h => by
  have : zux L x = 0 := by unfold zux; rw [errN_bad h, if_neg (by decide)]
  rwa [this] at k
 have ov : zua L → over L → Q (.i 0) [] := fun h ho => by
  have : zux L x = 0 := by unfold zux; rw [zya h ho, if_neg (by decide)]
  rwa [this] at k
 have row : ∀ {i : Nat} {s : Stk}, L[i]? = some s → ∀ {F : List U → Prop}, elL (L.map eS) (i : Int) F = F (eS s) := fun {i s} h {F} => zah (by omega) (by rw [zzs, zzg, h]; rfl)
 have hlen : ((L.map eS).length : Int) = (L.length : Int) := by rw [zzc]
 refine S333 ?_
 intro k1 hk1
 rw [hlen] at *
 refine ⟨fun x => ∃ i : Nat, x = (i : Int) ∧ i ≤ L.length ∧ ∀ s ∈ L.take i, 1 ≤ s.1 ∧ 0 ≤ s.2, fun x => (L.length - x).toNat, ⟨0, rfl, zz3 _, by simp⟩, ?_⟩
 rintro _ ⟨i, rfl, hi, hg⟩
 refine cIf (fun hlt => ?_) fun hge => ?_
 · have hl : i < L.length := by omega
   have hi2 := zzb hl
   generalize L[i] = s at hi2
   have hm := zzf hi2
   rw [row hi2]
   simp only [eS, ug0, ugs, zbo]
   refine cIf (fun h => cIf (fun _ => bad fun hgl => ?_) fun h => absurd (show (i : Int) ≥ 0 by omega) h) fun h1 => cIf (fun h => cIf (fun _ => bad fun hgl => ?_) fun h => absurd (show (i : Int) ≥ 0 by omega) h) fun h2 => ?_
   · have := (hgl s hm).1; omega
   · have := (hgl s hm).2; omega
   · have ew : zy5 .i64 ((i : Int) + 1) = ((i + 1 : Nat) : Int) := w64n (by omega)
     rw [ew]
     refine ⟨⟨i + 1, rfl, by omega, fun u hu => ?_⟩, by omega⟩
     rw [z1g, hi2] at hu
     rcases zzh.1 hu with hu | hu
     · exact hg u hu
     · obtain rfl := z03.1 hu; omega
 · have : i = L.length := by omega
   subst this
   rw [z0m] at hg
   have hgd : zua L := hg
   refine hk1 ⟨fun b x m => ∃ i : Nat, x = (i : Int) ∧ i ≤ L.length ∧ CntI L b i m, fun _ x _ => (L.length - x).toNat, ⟨0, rfl, zz3 _, by simp, by simp [zbs], by simp [zbs]⟩, ?_⟩
   rintro b _ m ⟨i, rfl, hi, hI⟩
   refine cIf (fun hlt => ?_) fun hge => ?_
   · have hl : i < L.length := by omega
     have hi2 := zzb hl
     generalize L[i] = s at hi2
     have hm := zzf hi2
     obtain ⟨t, q⟩ := s
     rw [row hi2]
     simp only [eS, ug0, ugs, zbo]
     have hq := (hr _ hm).2
     have hq2 := (hgd _ hm).2
     have ew : zy5 .i64 ((i : Int) + 1) = ((i + 1 : Nat) : Int) := w64n (by omega)
     rw [ew]
     have mm : ∀ {X : Prop}, X → X ∧ ((L.length : Int) - ((i + 1 : Nat) : Int)).toNat < ((L.length : Int) - (i : Int)).toNat := fun h => ⟨h, by omega⟩
     have ovr : ∀ {y : Int}, (b = false → y = tot (L.take i) t) → zjn < y + q → over L := fun {y} hy h => by
      cases b with
      | true => exact hI.1 rfl
      | false =>
        refine ⟨(t, q), hm, ?_⟩
        have e : L.take (i + 1) = L.take i ++ [(t, q)] := by rw [z1g, hi2]; rfl
        have h1 := tot_le hgd (i + 1) t
        rw [e, zgd] at h1
        have := hy rfl
        simp only [tot, if_true] at h1
        show zjn < tot L t
        omega
     have go : ∀ {y : Int}, (b = false → y = tot (L.take i) t) → 0 ≤ y ∧ y ≤ zjn → _ := fun {y} hy hb => addC_S (Q := post [.I, .I] [] (fun x5 x6 => (bif x6 != 0 then (∃ j : Nat, ((i + 1 : Nat) : Int) = (j : Int) ∧ j ≤ L.length ∧ CntI L true j (za3 m (.n t) [.n 1125899906842624])) ∧ ((L.length : Int) - ((i + 1 : Nat) : Int)).toNat < ((L.length : Int) - (i : Int)).toNat else (bif decide (x5 > 1125899906842624) then (∃ j : Nat, ((i + 1 : Nat) : Int) = (j : Int) ∧ j ≤ L.length ∧ CntI L true j (za3 m (.n t) [.n 1125899906842624])) ∧ ((L.length : Int) - ((i + 1 : Nat) : Int)).toNat < ((L.length : Int) - (i : Int)).toNat else (∃ j : Nat, ((i + 1 : Nat) : Int) = (j : Int) ∧ j ≤ L.length ∧ CntI L b j (za3 m (.n t) [.n x5])) ∧ ((L.length : Int) - ((i + 1 : Nat) : Int)).toNat < ((L.length : Int) - (i : Int)).toNat) : Prop)))
      (a := y) (b := q) hb (by omega) (fun h => mm ⟨i + 1, rfl, by omega, hI.full (ovr hy h)⟩) (by
       show cond (decide (y + q > 1125899906842624)) _ _
       refine cIf (fun h => mm ⟨i + 1, rfl, by omega, hI.full (ovr hy h)⟩) fun h => mm ⟨i + 1, rfl, by omega, hI.step hi2 hy ⟨by omega, by unfold zjn; omega⟩⟩)
     cases e : zbs m (.n t) with
     | none =>
       simp only [mO]
       refine go (fun hb => ?_) ⟨by decide, by decide⟩
       have := hI.2.1 hb t
       rw [e] at this
       split at this
       · cases this
       · rename_i hn; exact (zrg hn).symm
     | some r =>
       obtain ⟨y, rfl, hy⟩ := hI.2.2 t r e
       simp only [mO, ug0, zbo]
       refine go (fun hb => ?_) hy
       have := hI.2.1 hb t
       rw [e] at this
       split at this
       · cases this; rfl
       · cases this
   · have : i = L.length := by omega
     subst this
     refine cB (fun h => ov hgd (hI.1 h)) fun h => ?_
     have h2 := hI.2.1 h x
     rw [z0m] at h2
     by_cases ho : over L
     · cases e : zbs m (.n x) with
       | none => simp only [mO]; exact ov hgd ho
       | some r =>
         exfalso
         obtain ⟨s, hs, hlt⟩ := ho
         have h3 := hI.2.1 h s.1
         rw [z0m, if_pos (zz6.2 ⟨s, hs, rfl⟩)] at h3
         obtain ⟨y, hy, -, hy2⟩ := hI.2.2 _ _ h3
         cases hy
         omega
     · have hc : zux L x = tot L x := by unfold zux; rw [errN_ok hgd ho, if_pos rfl]
       rw [hc] at k
       split at h2
       · rw [h2]; simp only [mO, ug0, zbo]; exact k
       · rename_i hn
         rw [h2]; simp only [mO]
         rwa [zrg hn] at k
section
variable {Q : V → Mem → Prop}
theorem same_S {A B : List Stk} (hA : A.length ≤ 1000000) (hB : B.length ≤ 1000000) (k : Q (.u (.b (decide (A = B)))) []) : PRun Tryz.prog 115 [] [.l 2 (A.map eS), .l 2 (B.map eS)] Q := by
 refine S115 (cNe (fun h => ?_) fun h => ⟨fun x => ∃ t la lb, At A x t la ∧ At B x t lb, zpl A, ⟨[], A, B, .zero (by omega), .zero (by omega)⟩, ?_⟩)
 · have : A ≠ B := by rintro rfl; exact h rfl
   rwa [decide_eq_false this] at k
 simp only [zzc] at h
 rintro x ⟨t, _ | ⟨a, la⟩, lb, s1, s2⟩
 · have h1 := congrArg zy6 s1.e
   have h2 := congrArg zy6 s2.e
   simp at h1 h2
   have : lb = [] := z0v (by omega)
   subst this
   rw [s1.d0, decide_eq_true (s1.all.symm.trans s2.all)] at *
   exact k
 · have h1 := congrArg zy6 s1.e
   have h2 := congrArg zy6 s2.e
   simp at h1 h2
   rcases lb with _ | ⟨b, lb⟩
   · simp at h2; omega
   simp only [s1.d1, s2.d1, s1.el, s2.el, eS, ug0, ugs, zbo, cond_true, z2a]
   obtain ⟨a1, a2⟩ := a
   obtain ⟨b1, b2⟩ := b
   refine zfn (cB (fun he => ?_) fun he => ?_)
   · simp at he
     obtain ⟨rfl, rfl⟩ := he
     rw [s1.suf.wr]
     exact ⟨⟨_, _, _, s1.succ, s2.succ⟩, s1.suf.me⟩
   · have : A ≠ B := by
      rw [s1.e, s2.e]
      intro e
      simp at e
      simp [e] at he
     rwa [decide_eq_false this] at k
structure CheckOK (l : List Stk) (types : Int) : Prop where
 len : l.length ≤ 8
 rise : l.Pairwise (fun a b => a.1 < b.1)
 el : ∀ s ∈ l, 1 ≤ s.1 ∧ s.1 ≤ types ∧ 1 ≤ s.2 ∧ s.2 ≤ zjn
theorem chkL_iff {types : Int} : ∀ {l : List Stk} {last : Int}, zpd types last l = true ↔ l.Pairwise (fun a b => a.1 < b.1) ∧ ∀ s ∈ l, last < s.1 ∧ s.1 ≤ types ∧ 1 ≤ s.2 ∧ s.2 ≤ zjn
 | [], last => by simp [zpd]
 | a :: l, last => by
   simp only [zpd, zy9, decide_eq_true_eq, chkL_iff (l := l), z0h, zze]
   have hM : zjn = 1125899906842624 := rfl
   constructor
   · rintro ⟨h1, h2, h3⟩
     refine ⟨⟨fun b hb => (h3 b hb).1, h2⟩, ?_⟩
     rintro s (rfl | hs)
     · omega
     · have := h3 s hs; omega
   · rintro ⟨⟨h1, h2⟩, h3⟩
     refine ⟨by have := h3 a (.inl rfl); omega, h2, fun s hs => ?_⟩
     have := h3 s (.inr hs)
     have := h1 s hs
     omega
theorem chkE_iff {l : List Stk} : zfg l types = 0 ↔ CheckOK l types := by
 unfold zfg
 constructor
 · intro h
   split at h
   · rename_i hh
     have := chkL_iff.1 hh.1
     exact ⟨hh.2, this.1, fun s hs => by have := this.2 s hs; omega⟩
   · cases h
 · intro h
   rw [if_pos]
   exact ⟨chkL_iff.2 ⟨h.rise, fun s hs => by have := h.el s hs; omega⟩, h.len⟩
theorem znu {x : Int} (h : 0 ≤ x) (h2 : x < 18446744073709551616) : zy5 .u64 x = x := by rw [z29]; omega
end
section
set_option maxRecDepth 100000
theorem mixTb0 : Tryz.prog.follows .mixedOrders = true := by kernel_rfl
theorem S340z {lo : Int} {y : Int} (hh : bif y == 0 then False else (bif decide (y ≤ 0) then False else y ≠ 0 ∧ (y ≠ 0 ∧ (Q (.t [.u (.i .u64 (zy5 .u64 (Int.tdiv lo y))), .u (.i .u64 (Int.tmod lo y))]) [])))) : PRun Tryz.prog 340 [] [.u (.i .u64 0), .u (.i .u64 lo), .u (.i .u64 y)] Q :=
 zad mixTb0 Tryz.func340 (by kernel_rfl) (H := ⟨[], [], [], [], [], false, 64, KN.no, false, SP.no⟩) (n := 2) (by kernel_rfl) hh
end
section
set_option maxRecDepth 100000
theorem ze6 : Tryz.prog.follows .mixedOrders = true := by kernel_rfl
theorem S169 {o q r s u m w c : Int} {x : List (List U)} (hh : ∀ g : Bool → Prop, (∀ e : Bool, (∀ h : Bool → Prop, (∀ f : Bool, (∀ i : Bool → Prop, (∀ j : Bool, (∀ k : Bool → Prop, (∀ l : Bool, ((bif l then (bif e then Q (.u (.b j)) [] else Q (.u (.b false)) []) else (bif a == 2 then (bif f then (bif j then Q (.u (.b (c == zy5 .i64 (d + b)))) [] else Q (.u (.b false)) []) else Q (.u (.b false)) []) else (bif a == 4 then (bif a == 4 then (bif f then (bif decide (d < c) then (bif decide (c ≤ 2199023255552) then Q (.u (.b (b == 0))) [] else Q (.u (.b false)) []) else Q (.u (.b false)) []) else Q (.u (.b false)) []) else (bif a == 6 then (bif e then Q (.u (.b (b == 0))) [] else Q (.u (.b false)) []) else Q (.u (.b false)) [])) else (bif a == 5 then (bif f then (bif decide (d < c) then (bif decide (c ≤ 2199023255552) then Q (.u (.b (b == 0))) [] else Q (.u (.b false)) []) else Q (.u (.b false)) []) else Q (.u (.b false)) []) else (bif a == 6 then (bif e then Q (.u (.b (b == 0))) [] else Q (.u (.b false)) []) else Q (.u (.b false)) [])))))) → k l) → (bif a == 1 then k (a == 1) else k (a == 3))) → i j) → (bif decide (b ≥ 1) then i (decide (b ≤ m)) else i false)) → h f) → (bif decide (d ≥ 0) then h (decide (d ≤ 1099511627776)) else h false)) → g e) → (bif d == 0 then g (c == 0) else g false)) : PRun Tryz.prog 169 [] [(q17 n o p q r s t u v m w x a d c b)] Q :=
 zad ze6 Tryz.func169 (by kernel_rfl) (H := ⟨[], [((169, 2, 1), ⟨[(3, .B)], []⟩), ((169, 3, 1), ⟨[(4, .B)], []⟩), ((169, 4, 1), ⟨[(5, .B)], []⟩), ((169, 7, 1), ⟨[(24, .B)], []⟩)], [167], [], [], false, 64, KN.no, false, SP.no⟩) (n := 3) (by kernel_rfl) hh
theorem S71 {l m e k s u : Int} (hh : bif decide (f ≥ 1) then (bif !(decide (f ≤ 1099511627776)) then Q (.i 1) [] else (bif decide (g ≥ 1) then (bif !(decide (g ≤ 1099511627776)) then Q (.i 1) [] else (bif decide (h ≥ 1) then (bif !(decide (h ≤ 1099511627776)) then Q (.i 1) [] else (bif decide (i ≥ 1) then (bif !(decide (i ≤ 1099511627776)) then Q (.i 1) [] else (bif decide (j ≥ 1) then (bif !(decide (j ≤ 1099511627776)) then Q (.i 1) [] else (bif decide (k ≥ 1) then (bif !(decide (k ≤ 1099511627776)) then Q (.i 1) [] else ∀ c : Bool → Prop, (∀ p : Bool, (∀ a : Bool → Prop, (∀ q : Bool, (∀ d : Bool → Prop, (∀ r : Bool, ((bif q then (bif p then (bif r then PRun Tryz.prog 169 [] [(q17 f b g l h i j m e k n o s t u v)] (post [.B] [] (fun w => (bif w then Q (.i 0) [] else Q (.i 1) [] : Prop))) else Q (.i 1) []) else Q (.i 1) []) else Q (.i 1) [])) → d r) → PRun Tryz.prog 168 [] [.l 2 o, .i 32] (post q7 [] (fun x => (bif x == 0 then (bif b == 1 then d true else d ((zy6 o : Int) == 0)) else d false : Prop)))) → a q) → (bif decide (b ≥ 1) then (bif decide (b ≤ 4) then (bif decide (l ≥ 0) then (bif decide (l ≤ 4) then (bif decide (m ≥ 1) then (bif decide (m ≤ 1000) then (bif decide (n ≥ 0) then a (decide (n ≤ 1152921504606846976)) else a false) else a false) else a false) else a false) else a false) else a false) else a false)) → c p) → (bif b == 4 then (bif decide (e ≥ 1) then c (decide (e ≤ 10)) else c false) else c (e == 0))) else Q (.i 1) [])) else Q (.i 1) [])) else Q (.i 1) [])) else Q (.i 1) [])) else Q (.i 1) [])) else Q (.i 1) []) : PRun Tryz.prog 71 [] [(q17 f b g l h i j m e k n o s t u v)] Q :=
 zad ze6 Tryz.func71 (by kernel_rfl) (H := ⟨[], [((71, 10, 1), ⟨[(5, .B)], []⟩), ((71, 11, 1), ⟨[(6, .B)], []⟩), ((71, 12, 1), ⟨[(7, .B)], []⟩)], [167], [], [], false, 64, KN.no, false, SP.no⟩) (n := 3) (by kernel_rfl) hh
theorem S106 (hh : bif a == 1 then Q (.i 0) [] else Q (.i 1) []) : PRun Tryz.prog 106 [] [.i a] Q :=
 zad ze6 Tryz.func106 (by kernel_rfl) (H := ⟨[], [], [], [], [], false, 64, KN.no, false, SP.no⟩) (n := 2) (by kernel_rfl) hh
theorem S183 {c e k l o : Int} {m : List (List U)} (hh : bif decide (a ≥ 1) then Q (.u (.b (decide (a ≤ 4)))) [] else Q (.u (.b false)) []) : PRun Tryz.prog 183 [] [(q17 b c d e f g h i j k l m a n o p)] Q :=
 zad ze6 Tryz.func183 (by kernel_rfl) (H := ⟨[], [], [167], [], [], false, 64, KN.no, false, SP.no⟩) (n := 3) (by kernel_rfl) hh
theorem S294 {c e k l m o q : Int} {n : List (List U)} (hh : PRun Tryz.prog 71 [] [(q17 c d e f g h i j k l m n o p q b)] (post q7 [] (fun r => (bif r != 0 then Q (.t [(q17 0 0 0 0 0 0 0 0 0 0 0 [] 0 0 0 0), .i 1]) [] else (bif decide (a ≥ 0) then (bif !(decide (a ≤ 1099511627776)) then Q (.t [(q17 0 0 0 0 0 0 0 0 0 0 0 [] 0 0 0 0), .i 1]) [] else (bif !(o == 1) then Q (.t [(q17 0 0 0 0 0 0 0 0 0 0 0 [] 0 0 0 0), .i 9]) [] else Q (.t [(q17 c d e f g h i j k l m n 2 a (zy5 .i64 (a + b)) b), .i 0]) [])) else Q (.t [(q17 0 0 0 0 0 0 0 0 0 0 0 [] 0 0 0 0), .i 1]) []) : Prop)))) : PRun Tryz.prog 294 [] [(q17 c d e f g h i j k l m n o p q b), .i a] Q :=
 zad ze6 Tryz.func294 (by kernel_rfl) (H := ⟨[], [], [167, 201, 344], [], [], false, 64, KN.no, false, SP.no⟩) (n := 4) (by kernel_rfl) hh
theorem S101 {c e k l m o q : Int} {n : List (List U)} (hh : PRun Tryz.prog 71 [] [(q17 c d e f g h i j k l m n o p b q)] (post q7 [] (fun r => (bif r != 0 then Q (.t [(q17 0 0 0 0 0 0 0 0 0 0 0 [] 0 0 0 0), .i 1]) [] else (bif decide (a ≥ 0) then (bif !(decide (a ≤ 1099511627776)) then Q (.t [(q17 0 0 0 0 0 0 0 0 0 0 0 [] 0 0 0 0), .i 1]) [] else (bif o == 2 then (bif decide (a ≥ p) then (bif !(decide (a ≤ zy5 .i64 (b - 1))) then Q (.t [(q17 0 0 0 0 0 0 0 0 0 0 0 [] 0 0 0 0), .i 9]) [] else Q (.t [(q17 c d e f g h i j k l m n 3 0 0 (zy5 .i64 (b - a))), .i 0]) []) else Q (.t [(q17 0 0 0 0 0 0 0 0 0 0 0 [] 0 0 0 0), .i 9]) []) else Q (.t [(q17 0 0 0 0 0 0 0 0 0 0 0 [] 0 0 0 0), .i 9]) [])) else Q (.t [(q17 0 0 0 0 0 0 0 0 0 0 0 [] 0 0 0 0), .i 1]) []) : Prop)))) : PRun Tryz.prog 101 [] [(q17 c d e f g h i j k l m n o p b q), .i a] Q :=
 zad ze6 Tryz.func101 (by kernel_rfl) (H := ⟨[], [], [167, 201, 209], [], [], false, 64, KN.no, false, SP.no⟩) (n := 5) (by kernel_rfl) hh
theorem S103 {c e k m o : Int} {l : List (List U)} (hh : PRun Tryz.prog 71 [] [(q17 a b c d e f g h i j k l m n o p)] (post q7 [] (fun q => (bif q != 0 then Q (.t [(q17 0 0 0 0 0 0 0 0 0 0 0 [] 0 0 0 0), .i 1]) [] else (bif !(m == 3) then Q (.t [(q17 0 0 0 0 0 0 0 0 0 0 0 [] 0 0 0 0), .i 9]) [] else Q (.t [(q17 a b c d e f g h i j k l 1 n o p), .i 0]) []) : Prop)))) : PRun Tryz.prog 103 [] [(q17 a b c d e f g h i j k l m n o p)] Q :=
 zad ze6 Tryz.func103 (by kernel_rfl) (H := ⟨[], [], [167, 201, 212], [], [], false, 64, KN.no, false, SP.no⟩) (n := 4) (by kernel_rfl) hh
theorem S114 {c e k l m o q : Int} {n : List (List U)} (hh : PRun Tryz.prog 71 [] [(q17 c d e f g h i j k l m n o p a q)] (post q7 [] (fun r => (bif r != 0 then Q (.t [(q17 0 0 0 0 0 0 0 0 0 0 0 [] 0 0 0 0), .i 1]) [] else (bif decide (b ≥ 0) then (bif !(decide (b ≤ 1099511627776)) then Q (.t [(q17 0 0 0 0 0 0 0 0 0 0 0 [] 0 0 0 0), .i 1]) [] else (bif o == 2 then (bif !(decide (b ≥ a)) then Q (.t [(q17 0 0 0 0 0 0 0 0 0 0 0 [] 0 0 0 0), .i 9]) [] else Q (.t [(q17 c d e f g h i j k l m n 4 p a 0), .i 0]) []) else Q (.t [(q17 0 0 0 0 0 0 0 0 0 0 0 [] 0 0 0 0), .i 9]) [])) else Q (.t [(q17 0 0 0 0 0 0 0 0 0 0 0 [] 0 0 0 0), .i 1]) []) : Prop)))) : PRun Tryz.prog 114 [] [(q17 c d e f g h i j k l m n o p a q), .i b] Q :=
 zad ze6 Tryz.func114 (by kernel_rfl) (H := ⟨[], [], [167, 201, 220], [], [], false, 64, KN.no, false, SP.no⟩) (n := 4) (by kernel_rfl) hh
theorem S95 {c e k m o : Int} {l : List (List U)} (hh : PRun Tryz.prog 71 [] [(q17 a b c d e f g h i j k l m n o p)] (post q7 [] (fun q => (bif q != 0 then Q (.t [(q17 0 0 0 0 0 0 0 0 0 0 0 [] 0 0 0 0), .i 1]) [] else (bif !(m == 4) then Q (.t [(q17 0 0 0 0 0 0 0 0 0 0 0 [] 0 0 0 0), .i 9]) [] else Q (.t [(q17 a b c d e f g h i j k l 5 n o p), .i 0]) []) : Prop)))) : PRun Tryz.prog 95 [] [(q17 a b c d e f g h i j k l m n o p)] Q :=
 zad ze6 Tryz.func95 (by kernel_rfl) (H := ⟨[], [], [167, 201, 202], [], [], false, 64, KN.no, false, SP.no⟩) (n := 4) (by kernel_rfl) hh
theorem S108 {c e k l o : Int} {m : List (List U)} (hh : PRun Tryz.prog 71 [] [(q17 b c d e f g h i j k l m a n o p)] (post q7 [] (fun q => (bif q != 0 then Q (.t [(q17 0 0 0 0 0 0 0 0 0 0 0 [] 0 0 0 0), .i 1]) [] else (bif decide (a ≥ 1) then (bif !(decide (a ≤ 3)) then Q (.t [(q17 0 0 0 0 0 0 0 0 0 0 0 [] 0 0 0 0), .i 9]) [] else Q (.t [(q17 b c d e f g h i j k l m 6 0 0 0), .i 0]) []) else Q (.t [(q17 0 0 0 0 0 0 0 0 0 0 0 [] 0 0 0 0), .i 9]) []) : Prop)))) : PRun Tryz.prog 108 [] [(q17 b c d e f g h i j k l m a n o p)] Q :=
 zad ze6 Tryz.func108 (by kernel_rfl) (H := ⟨[], [], [167, 201, 214], [], [], false, 64, KN.no, false, SP.no⟩) (n := 5) (by kernel_rfl) hh
end
section
set_option maxRecDepth 1000000
variable {Q : V → Mem → Prop}
structure Jb where
 id : Int
 kind : Int
 own : Int
 div : Int
 who : Int
 bay : Int
 draft : Int
 runs : Int
 copies : Int
 time : Int
 fee : Int
 needs : List Stk
 st : Int
 start : Int
 fin : Int
 left : Int
abbrev jV (j : Jb) : V := .a [.i j.id, .i j.kind, .i j.own, .i j.div, .i j.who, .i j.bay, .i j.draft, .i j.runs, .i j.copies, .i j.time, .i j.fee, .l 2 (j.needs.map eS), .i j.st, .i j.start, .i j.fin, .i j.left]
abbrev za2 (j : Jb) : List U := [.n j.id, .n j.kind, .n j.own, .n j.div, .n j.who, .n j.bay, .n j.draft, .n j.runs, .n j.copies, .n j.time, .n j.fee, .l 2 (j.needs.map eS), .n j.st, .n j.start, .n j.fin, .n j.left]
def jZ : Jb := ⟨0, 0, 0, 0, 0, 0, 0, 0, 0, 0, 0, [], 0, 0, 0, 0⟩
def inJ (n a b : Int) : Bool := decide (n ≥ a) && decide (n ≤ b)
theorem inJ_iff : inJ n a b = true ↔ a ≤ n ∧ n ≤ b := by
 unfold inJ
 simp only [zy9, decide_eq_true_eq]
theorem kAn {k : Bool → Prop} {c r : Bool} {T : Prop} (h : k (c && r)) (hT : k r → T) : bif c then T else k false := by
 cases c with
 | true => exact hT h
 | false => exact h
theorem kOr {k : Bool → Prop} {c r : Bool} (h : k (c || r)) : bif c then k c else k r := by
 cases c with
 | true => exact h
 | false => exact h
theorem kOr2 {k : Bool → Prop} {c r : Bool} (h : k (c || r)) : bif c then k true else k r := by
 cases c with
 | true => exact h
 | false => exact h
theorem zng {x : Int} {A B : Prop} (h0 : inJ x a b = false → A) (h1 : inJ x a b = true → B) : bif decide (x ≥ a) then (bif !(decide (x ≤ b)) then A else B) else A := by
 unfold inJ at h0 h1
 cases h : decide (x ≥ a) with
 | false => rw [h] at h0; exact h0 rfl
 | true =>
   rw [h] at h0 h1
   cases h2 : decide (x ≤ b) with
   | false => rw [h2] at h0; exact h0 rfl
   | true => rw [h2] at h1; exact h1 rfl
def jNone (j : Jb) : Bool := j.start == 0 && j.fin == 0
def jSt (j : Jb) : Bool :=
 if j.st = 1 ∨ j.st = 3 then jNone j && inJ j.left 1 j.time else if j.st = 2 then inJ j.start 0 1099511627776 && (inJ j.left 1 j.time && j.fin == zy5 .i64 (j.start + j.left))
 else if j.st = 4 ∨ j.st = 5 then inJ j.start 0 1099511627776 && (decide (j.start < j.fin) && (decide (j.fin ≤ 2199023255552) && j.left == 0)) else if j.st = 6 then jNone j && j.left == 0 else false
theorem zxo {j : Jb} (K : Q (.u (.b (jSt j))) []) : PRun Tryz.prog 169 [] [jV j] Q := by
 refine S169 ?_
 generalize hk : (fun b => Q (.u (.b b)) []) = k
 have e : ∀ b, Q (.u (.b b)) [] = k b := fun b => by rw [← hk]
 rw [e] at K
 simp only [e]
 intro k1 hk1
 refine kAn (hk1 (jNone j) ?_) fun h => h
 intro k2 hk2
 refine kAn (hk2 (inJ j.start 0 1099511627776) ?_) fun h => h
 intro k3 hk3
 refine kAn (hk3 (inJ j.left 1 j.time) ?_) fun h => h
 intro k4 hk4
 refine kOr (hk4 _ ?_)
 unfold jSt at K
 by_cases h13 : j.st = 1 ∨ j.st = 3
 · rw [if_pos h13] at K
   have : (j.st == 1 || j.st == 3) = true := by rcases h13 with h | h <;> rw [h] <;> rfl
   rw [this]
   exact kAn K fun h => h
 · rw [if_neg h13] at K
   have : (j.st == 1 || j.st == 3) = false := by
    rw [z2q]
    exact ⟨beq_eq_false_iff_ne.2 fun h => h13 (.inl h), beq_eq_false_iff_ne.2 fun h => h13 (.inr h)⟩
   rw [this]
   show (bif j.st == 2 then _ else _ : Prop)
   refine cEq (fun h2 => ?_) fun h2 => ?_
   · rw [if_pos h2] at K
     exact kAn K fun h => kAn h fun h => h
   · rw [if_neg h2] at K
     refine cEq (fun h4 => ?_) fun h4 => cEq (fun h5 => ?_) fun h5 => cEq (fun h6 => ?_) fun h6 => ?_
     · rw [if_pos (.inl h4)] at K
       exact cEq (fun _ => kAn K fun h => kAn h fun h => kAn h fun h => h) fun h => absurd h4 h
     · rw [if_pos (.inr h5)] at K
       exact kAn K fun h => kAn h fun h => kAn h fun h => h
     · rw [if_neg (by omega), if_pos h6] at K
       exact kAn K fun h => h
     · rw [if_neg (by omega), if_neg h6] at K
       exact K
def jNum (j : Jb) : Bool := inJ j.kind 1 4 && (inJ j.div 0 4 && (inJ j.runs 1 1000 && inJ j.fee 0 1152921504606846976))
def jCop (j : Jb) : Bool := if j.kind = 4 then inJ j.copies 1 10 else j.copies == 0
def zqm (j : Jb) : Bool := zfg j.needs 32 == 0 && (j.kind == 1 || (j.needs.length : Int) == 0)
def zpk (j : Jb) : Bool := inJ j.id 1 1099511627776 && (inJ j.own 1 1099511627776 && (inJ j.who 1 1099511627776 && (inJ j.bay 1 1099511627776 && (inJ j.draft 1 1099511627776 && (inJ j.time 1 1099511627776 && (jNum j && (jCop j && zqm j)))))))
def jOk (j : Jb) : Bool := zpk j && jSt j
theorem zex {j : Jb} (hn : j.needs.length ≤ 1000) (K : Q (.i (if jOk j then 0 else 1)) []) : PRun Tryz.prog 71 [] [jV j] Q := by
 have bad : jOk j = false → Q (.i 1) [] := fun h => by rw [h] at K; exact K
 have badF : zpk j = false → Q (.i 1) [] := fun h => bad (by unfold jOk; rw [h]; rfl)
 refine S71 (zng (fun h => badF (by unfold zpk; rw [h]; rfl)) fun g1 => zng (fun h => badF (by unfold zpk; rw [g1, h]; rfl)) fun g2 => zng (fun h => badF (by unfold zpk; rw [g1, g2, h]; rfl)) fun g3 => zng (fun h => badF (by unfold zpk; rw [g1, g2, g3, h]; rfl)) fun g4 => zng (fun h => badF (by unfold zpk; rw [g1, g2, g3, g4, h]; rfl)) fun g5 => zng (fun h => badF (by unfold zpk; rw [g1, g2, g3, g4, g5, h]; rfl)) fun g6 => ?_)
 have hfix : zpk j = (jNum j && (jCop j && zqm j)) := by unfold zpk; rw [g1, g2, g3, g4, g5, g6]; rfl
 intro k1 hk1
 have c1 : k1 (jCop j) := by
  refine hk1 _ ?_
  intro k2 hk2
  have c2 : k2 (jNum j) := by
   refine hk2 _ ?_
   intro k3 hk3
   have c3 : k3 (zqm j) := by
    refine hk3 _ ?_
    cases h2 : jNum j with
    | false => exact badF (by rw [hfix, h2]; rfl)
    | true =>
      cases h1 : jCop j with
      | false => exact badF (by rw [hfix, h2, h1]; rfl)
      | true =>
        cases h3 : zqm j with
        | false => exact badF (by rw [hfix, h2, h1, h3]; rfl)
        | true =>
          refine zxo ?_
          show (bif jSt j then _ else _ : Prop)
          have hok : jOk j = jSt j := by unfold jOk; rw [hfix, h2, h1, h3]; rfl
          rw [hok] at K
          cases h4 : jSt j with
          | true => rw [h4] at K; exact K
          | false => rw [h4] at K; exact K
   refine zho (by omega) ?_
   show (bif zfg j.needs 32 == 0 then _ else _ : Prop)
   unfold zqm at c3
   simp only [zzc]
   exact kAn c3 fun h => kOr2 h
  unfold jNum inJ at c2
  simp only [z3a] at c2
  exact kAn c2 fun h => kAn h fun h => kAn h fun h => kAn h fun h => kAn h fun h => kAn h fun h => kAn h fun h => h
 unfold jCop at c1
 refine cEq (fun h => ?_) fun h => ?_
 · rw [if_pos h] at c1
   exact kAn c1 fun h => h
 · rw [if_neg h] at c1
   exact c1
def zmu (w : Nat) (j : Jb) (now : Int) : Bool :=
 match w with
 | 1 => j.st == 1
 | 2 => j.st == 2 && inJ now j.start (j.fin - 1)
 | 3 => j.st == 3
 | 4 => j.st == 2 && decide (now ≥ j.fin)
 | 5 => j.st == 4
 | _ => inJ j.st 1 3
def jDo (w : Nat) (j : Jb) (now : Int) : Jb :=
 match w with
 | 1 => { j with st := 2, start := now, fin := now + j.left }
 | 2 => { j with st := 3, start := 0, fin := 0, left := j.fin - now }
 | 3 => { j with st := 1 }
 | 4 => { j with st := 4, left := 0 }
 | 5 => { j with st := 5 }
 | _ => { j with st := 6, start := 0, fin := 0, left := 0 }
def jE (w : Nat) (j : Jb) (now : Int) : Int := if jOk j = true ∧ inJ now 0 1099511627776 = true then (if zmu w j now = true then 0 else 9) else 1
def jR (w : Nat) (j : Jb) (now : Int) : Jb := if jE w j now = 0 then jDo w j now else jZ
theorem jE_zero {w : Nat} {j : Jb} {now : Int} : jE w j now = 0 ↔ jOk j = true ∧ inJ now 0 1099511627776 = true ∧ zmu w j now = true := by
 unfold jE
 constructor
 · intro h
   split at h
   · rename_i hh
     split at h
     · rename_i h2; exact ⟨hh.1, hh.2, h2⟩
     · cases h
   · cases h
 · rintro ⟨h1, h2, h3⟩
   rw [if_pos ⟨h1, h2⟩, if_pos h3]
theorem zql {j : Jb} (h : jOk j = true) (h2 : j.st = 2) : (0 ≤ j.start ∧ j.start ≤ 1099511627776) ∧ (1 ≤ j.left ∧ j.left ≤ j.time) ∧ j.fin = j.start + j.left ∧ j.time ≤ 1099511627776 := by
 unfold jOk zpk at h
 simp only [zy9] at h
 obtain ⟨⟨-, -, -, -, -, ht, -⟩, hs⟩ := h
 have ht := (inJ_iff.1 ht).2
 unfold jSt at hs
 rw [if_neg (by omega), if_pos h2] at hs
 simp only [zy9, beq_iff_eq] at hs
 have a1 := inJ_iff.1 hs.1
 have a2 := inJ_iff.1 hs.2.1
 refine ⟨a1, a2, ?_, ht⟩
 rw [hs.2.2, w64 (by omega) (by omega)]
theorem zf1 {j : Jb} (h : jOk j = true) (h2 : j.st = 1 ∨ j.st = 3) : j.start = 0 ∧ j.fin = 0 ∧ (1 ≤ j.left ∧ j.left ≤ j.time) ∧ j.time ≤ 1099511627776 := by
 unfold jOk zpk at h
 simp only [zy9] at h
 obtain ⟨⟨-, -, -, -, -, ht, -⟩, hs⟩ := h
 have ht := (inJ_iff.1 ht).2
 unfold jSt jNone at hs
 rw [if_pos h2] at hs
 simp only [zy9, beq_iff_eq] at hs
 exact ⟨hs.1.1, hs.1.2, inJ_iff.1 hs.2, ht⟩
section
variable {j : Jb} {now : Int}
theorem jbad {w : Nat} (K : Q (.t [jV (jR w j now), .i (jE w j now)]) []) (h : ¬ (jOk j = true ∧ inJ now 0 1099511627776 = true)) : Q (.t [jV jZ, .i 1]) [] := by
 have e : jE w j now = 1 := by unfold jE; rw [if_neg h]
 unfold jR at K
 rw [e, if_neg (by decide)] at K
 exact K
theorem jnot {w : Nat} (K : Q (.t [jV (jR w j now), .i (jE w j now)]) []) (h1 : jOk j = true) (h2 : inJ now 0 1099511627776 = true) (h : zmu w j now = false) : Q (.t [jV jZ, .i 9]) [] := by
 have e : jE w j now = 9 := by unfold jE; rw [if_pos ⟨h1, h2⟩, if_neg (by rw [h]; decide)]
 unfold jR at K
 rw [e, if_neg (by decide)] at K
 exact K
theorem jyes {w : Nat} (K : Q (.t [jV (jR w j now), .i (jE w j now)]) []) (h1 : jOk j = true) (h2 : inJ now 0 1099511627776 = true) (h : zmu w j now = true) : Q (.t [jV (jDo w j now), .i 0]) [] := by
 have e : jE w j now = 0 := jE_zero.2 ⟨h1, h2, h⟩
 unfold jR at K
 rw [e, if_pos rfl] at K
 exact K
theorem in00 : inJ 0 0 1099511627776 = true := by decide
theorem jstart_S (hn : j.needs.length ≤ 1000) (K : Q (.t [jV (jR 1 j now), .i (jE 1 j now)]) []) : PRun Tryz.prog 294 [] [jV j, .i now] Q := by
 refine S294 (zex hn ?_)
 rw [zaw]
 cases h1 : jOk j with
 | false => exact jbad K fun h => by rw [h1] at h; cases h.1
 | true =>
   refine cNe (fun h => absurd rfl h) fun _ => zng (fun h2 => jbad K fun h => by rw [h2] at h; cases h.2) fun h2 => ?_
   cases h3 : (j.st == 1) with
   | false => exact jnot K h1 h2 h3
   | true =>
     have h4 := zf1 h1 (.inl (eq_of_beq h3))
     have h5 := inJ_iff.1 h2
     have := jyes K h1 h2 h3
     show Q (.t [.a [_, _, _, _, _, _, _, _, _, _, _, _, _, _, .i (zy5 .i64 (now + j.left)), _], _]) _
     rw [w64 (by omega) (by omega)]
     exact this
theorem jpause_S (hn : j.needs.length ≤ 1000) (K : Q (.t [jV (jR 2 j now), .i (jE 2 j now)]) []) : PRun Tryz.prog 101 [] [jV j, .i now] Q := by
 refine S101 (zex hn ?_)
 rw [zaw]
 cases h1 : jOk j with
 | false => exact jbad K fun h => by rw [h1] at h; cases h.1
 | true =>
   refine cNe (fun h => absurd rfl h) fun _ => zng (fun h2 => jbad K fun h => by rw [h2] at h; cases h.2) fun h2 => cEq (fun h3 => ?_) fun h3 => ?_
   · have h4 := zql h1 h3
     have h5 := inJ_iff.1 h2
     rw [w64 (x := j.fin - 1) (by omega) (by omega), w64 (x := j.fin - now) (by omega) (by omega)]
     refine zng (fun h6 => jnot K h1 h2 ?_) fun h6 => jyes K h1 h2 ?_
     · show (j.st == 2 && inJ now j.start (j.fin - 1)) = false
       rw [h6, Bool.and_false]
     · show (j.st == 2 && inJ now j.start (j.fin - 1)) = true
       rw [h6, h3]; rfl
   · refine jnot K h1 h2 ?_
     show (j.st == 2 && inJ now j.start (j.fin - 1)) = false
     rw [beq_eq_false_iff_ne.2 h3, Bool.false_and]
theorem zxp (hn : j.needs.length ≤ 1000) (K : Q (.t [jV (jR 3 j 0), .i (jE 3 j 0)]) []) : PRun Tryz.prog 103 [] [jV j] Q := by
 refine S103 (zex hn ?_)
 rw [zaw]
 cases h1 : jOk j with
 | false => exact jbad K fun h => by rw [h1] at h; cases h.1
 | true =>
   refine cNe (fun h => absurd rfl h) fun _ => ?_
   cases h3 : (j.st == 3) with
   | false => exact jnot K h1 in00 h3
   | true => exact jyes K h1 in00 h3
theorem zxq (hn : j.needs.length ≤ 1000) (K : Q (.t [jV (jR 4 j now), .i (jE 4 j now)]) []) : PRun Tryz.prog 114 [] [jV j, .i now] Q := by
 refine S114 (zex hn ?_)
 rw [zaw]
 cases h1 : jOk j with
 | false => exact jbad K fun h => by rw [h1] at h; cases h.1
 | true =>
   refine cNe (fun h => absurd rfl h) fun _ => zng (fun h2 => jbad K fun h => by rw [h2] at h; cases h.2) fun h2 => cEq (fun h3 => ?_) fun h3 => ?_
   · cases h6 : decide (now ≥ j.fin) with
     | false => exact jnot K h1 h2 (by show (j.st == 2 && decide (now ≥ j.fin)) = false; rw [h6, Bool.and_false])
     | true => exact jyes K h1 h2 (by show (j.st == 2 && decide (now ≥ j.fin)) = true; rw [h6, h3]; rfl)
   · exact jnot K h1 h2 (by show (j.st == 2 && decide (now ≥ j.fin)) = false; rw [beq_eq_false_iff_ne.2 h3, Bool.false_and])
theorem zt5 (hn : j.needs.length ≤ 1000) (K : Q (.t [jV (jR 5 j 0), .i (jE 5 j 0)]) []) : PRun Tryz.prog 95 [] [jV j] Q := by
 refine S95 (zex hn ?_)
 rw [zaw]
 cases h1 : jOk j with
 | false => exact jbad K fun h => by rw [h1] at h; cases h.1
 | true =>
   refine cNe (fun h => absurd rfl h) fun _ => ?_
   cases h3 : (j.st == 4) with
   | false => exact jnot K h1 in00 h3
   | true => exact jyes K h1 in00 h3
theorem zxr (hn : j.needs.length ≤ 1000) (K : Q (.t [jV (jR 6 j 0), .i (jE 6 j 0)]) []) : PRun Tryz.prog 108 [] [jV j] Q := by
 refine S108 (zex hn ?_)
 rw [zaw]
 cases h1 : jOk j with
 | false => exact jbad K fun h => by rw [h1] at h; cases h.1
 | true => exact cNe (fun h => absurd rfl h) fun _ => zng (fun h3 => jnot K h1 in00 h3) fun h3 => jyes K h1 in00 h3
theorem zvp {k : Int} (K : Q (.i (if k = 1 then 0 else 1)) []) : PRun Tryz.prog 106 [] [.i k] Q := by
 refine S106 (cEq (fun h => ?_) fun h => ?_)
 · rw [if_pos h] at K; exact K
 · rw [if_neg h] at K; exact K
def ze2 (j : Jb) : Bool := inJ j.st 1 4
theorem jopen_S (K : Q (.u (.b (ze2 j))) []) : PRun Tryz.prog 183 [] [jV j] Q := by
 refine S183 ?_
 generalize hk : (fun b => Q (.u (.b b)) []) = k
 have e : ∀ b, Q (.u (.b b)) [] = k b := fun b => by rw [← hk]
 rw [e] at K
 simp only [e]
 exact kAn K fun h => h
end
end
section
set_option maxRecDepth 100000
theorem zg9 : Tryz.prog.follows .mixedOrders = true := by kernel_rfl
theorem S180 {k l m : Int} {i a : List (List U)} (hh : PRun Tryz.prog 282 [] [.l 4 a, .i b] (post q8 [] (fun c d e f g => (Q (.t [(q16 c d e f), .i g]) [] : Prop)))) : PRun Tryz.prog 180 [] [(q24 h i j a k l m n), .i b] Q :=
 zad zg9 Tryz.func180 (by kernel_rfl) (H := ⟨[], [], [], [], [], false, 64, KN.no, false, SP.no⟩) (n := 2) (by kernel_rfl) hh
theorem S182 {k l o q : Int} {a m : List (List U)} (hh : PRun Tryz.prog 284 [] [.l 7 a, .i b] (post q11 [] (fun c d e f g h i j => (Q (.t [(q22 c d e f g h i), .i j]) [] : Prop)))) : PRun Tryz.prog 182 [] [(q24 k a l m n o p q), .i b] Q :=
 zad zg9 Tryz.func182 (by kernel_rfl) (H := ⟨[], [], [], [], [], false, 64, KN.no, false, SP.no⟩) (n := 2) (by kernel_rfl) hh
theorem S186 {e c : Int} {g : List (List U)} (hh : PRun Tryz.prog 285 [] [(q22 d e f g h c i), .l 3 [[.n a, .n 0, .n 10], [.n b, .n 1, .n (zy5 .i64 (10 - a))]]] (post [.B] [] (fun j => (bif !j then Q (.t [.i 0, .i 1]) [] else (2 : Int) ≠ 0 ∧ (Q (.t [.i (zy5 .i64 (Int.tdiv (zy5 .i64 (c * zy5 .i64 (zy5 .i64 (zy5 .i64 (a + b) * zy5 .i64 (zy5 .i64 (a + b) + 1)) - zy5 .i64 (a * zy5 .i64 (a + 1))))) 2)), .i 0]) []) : Prop)))) : PRun Tryz.prog 186 [] [(q22 d e f g h c i), .i a, .i b] Q :=
 zad zg9 Tryz.func186 (by kernel_rfl) (H := ⟨[], [], [], [], [], false, 64, KN.no, false, SP.no⟩) (n := 2) (by kernel_rfl) hh
theorem S187 {e c : Int} {h : List (List U)} (hh : PRun Tryz.prog 285 [] [(q22 e f g h a i b), .l 3 [[.n c, .n 1, .n 10], [.n d, .n 1, .n b]]] (post [.B] [] (fun j => (bif !j then Q (.t [.i 0, .i 1]) [] else Q (.t [.i (zy5 .i64 (zy5 .i64 (a * c) * d)), .i 0]) [] : Prop)))) : PRun Tryz.prog 187 [] [(q22 e f g h a i b), .i c, .i d] Q :=
 zad zg9 Tryz.func187 (by kernel_rfl) (H := ⟨[], [], [], [], [], false, 64, KN.no, false, SP.no⟩) (n := 2) (by kernel_rfl) hh
theorem S203 {c : Int} (hh : PRun Tryz.prog 285 [] [(q22 a b d e f g h), .l 3 [[.n c, .n 1, .n 1000]]] (post [.B] [] (fun i => (bif !i then Q (.t [.a [.i 0, .i 0], .i 1]) [] else Q (.t [.a [.i a, .i (zy5 .i64 (b * c))], .i 0]) [] : Prop)))) : PRun Tryz.prog 203 [] [(q22 a b d e f g h), .i c] Q :=
 zad zg9 Tryz.func203 (by kernel_rfl) (H := ⟨[], [], [], [], [], false, 64, KN.no, false, SP.no⟩) (n := 2) (by kernel_rfl) hh
theorem S188 (hh : bif decide (a ≥ 0) then (bif !(decide (a ≤ 10000)) then Q (.t [.i 0, .i 1]) [] else (bif decide (b < 0) then Q (.t [.i 0, .i 1]) [] else (bif decide (b > 1099511627776) then Q (.t [.i 0, .i 1]) [] else PRun Tryz.prog 286 [] [.i b, .i a, .i 10000, .u (.b true)] (post q10 [] (fun c d => (Q (.t [.i c, .i d]) [] : Prop)))))) else Q (.t [.i 0, .i 1]) []) : PRun Tryz.prog 188 [] [.i a, .i b] Q :=
 zad zg9 Tryz.func188 (by kernel_rfl) (H := ⟨[], [], [287], [], [], false, 64, KN.no, false, SP.no⟩) (n := 3) (by kernel_rfl) hh
theorem S282 (hh : bif decide (b ≥ 1) then (bif !(decide (b ≤ (zy6 c : Int))) then Q (.t [(q16 0 0 0 0), .i 3]) [] else elL c (zy5 .i64 (b - 1)) (fun a => dI .i64 (ug a 0) (fun d => dI .i64 (ug a 1) (fun e => dI .i64 (ug a 2) (fun f => dI .i64 (ug a 3) (fun g => Q (.t [(q16 d e f g), .i 0]) [])))))) else Q (.t [(q16 0 0 0 0), .i 3]) []) : PRun Tryz.prog 282 [] [.l 4 c, .i b] Q :=
 zad zg9 Tryz.func282 (by kernel_rfl) (H := ⟨[], [], [268], [], [], false, 64, KN.no, false, SP.no⟩) (n := 3) (by kernel_rfl) hh
theorem S284 (hh : bif decide (b ≥ 1) then (bif !(decide (b ≤ (zy6 c : Int))) then Q (.t [(q22 0 0 0 [] 0 0 0), .i 3]) [] else elL c (zy5 .i64 (b - 1)) (fun a => dI .i64 (ug a 0) (fun d => dI .i64 (ug a 1) (fun e => dI .i64 (ug a 2) (fun f => dL 2 (ug a 3) (fun g => dI .i64 (ug a 4) (fun h => dI .i64 (ug a 5) (fun i => dI .i64 (ug a 6) (fun j => Q (.t [(q22 d e f g h i j), .i 0]) []))))))))) else Q (.t [(q22 0 0 0 [] 0 0 0), .i 3]) []) : PRun Tryz.prog 284 [] [.l 7 c, .i b] Q :=
 zad zg9 Tryz.func284 (by kernel_rfl) (H := ⟨[], [], [268], [], [], false, 64, KN.no, false, SP.no⟩) (n := 3) (by kernel_rfl) hh
end
section
set_option maxRecDepth 100000
theorem zfx : Tryz.prog.follows .mixedOrders = true := by kernel_rfl
theorem S280 {g : List (List U)} {k : Int} (hh : ∃ (e : Int → Int → Prop) (f : Int → Int → Nat), e 0 (zy6 g : Int) ∧ (∀ a d : Int, e a d → (bif decide (a < d) then 0 ≤ (1 : Int) ∧ (elL g (zy5 .i64 (Int.fdiv (zy5 .u64 (zy5 .i64 (a + d))) (2 ^ (1)))) (fun b => dI .i64 (ug b 0) (fun l => dI .i64 (ug b 1) (fun m => dI .i64 (ug b 2) (fun n => dI .i64 (ug b 3) (fun o => dI .i64 (ug b 4) (fun v => dI .i64 (ug b 5) (fun w => dI .i64 (ug b 6) (fun x => dI .i64 (ug b 7) (fun y => dI .i64 (ug b 8) (fun α => dI .i64 (ug b 9) (fun β => dI .i64 (ug b 10) (fun γ => dI .i64 (ug b 11) (fun δ => dI .i64 (ug b 12) (fun ε => PRun Tryz.prog 279 [] [(q16 l m n o), q16 h i j k] (post q7 [] (fun p => (bif decide (p < 0) then e (zy5 .i64 (zy5 .i64 (Int.fdiv (zy5 .u64 (zy5 .i64 (a + d))) (2 ^ (1))) + 1)) d ∧ f (zy5 .i64 (zy5 .i64 (Int.fdiv (zy5 .u64 (zy5 .i64 (a + d))) (2 ^ (1))) + 1)) d < f a d else e a (zy5 .i64 (Int.fdiv (zy5 .u64 (zy5 .i64 (a + d))) (2 ^ (1)))) ∧ f a (zy5 .i64 (Int.fdiv (zy5 .u64 (zy5 .i64 (a + d))) (2 ^ (1)))) < f a d : Prop)))))))))))))))))) else (bif decide (a < (zy6 g : Int)) then elL g a (fun c => dI .i64 (ug c 0) (fun q => dI .i64 (ug c 1) (fun r => dI .i64 (ug c 2) (fun s => dI .i64 (ug c 3) (fun t => dI .i64 (ug c 4) (fun ζ => dI .i64 (ug c 5) (fun η => dI .i64 (ug c 6) (fun θ => dI .i64 (ug c 7) (fun ι => dI .i64 (ug c 8) (fun κ => dI .i64 (ug c 9) (fun μ => dI .i64 (ug c 10) (fun ν => dI .i64 (ug c 11) (fun ξ => dI .i64 (ug c 12) (fun ο => PRun Tryz.prog 279 [] [(q16 q r s t), q16 h i j k] (post q7 [] (fun u => (Q (.t [.i a, .u (.b (u == 0))]) [] : Prop))))))))))))))))) else Q (.t [.i a, .u (.b false)]) [])))) : PRun Tryz.prog 280 [] [.l 13 g, q16 h i j k, .f 281 [] []] Q :=
 zad zfx Tryz.func280 (by kernel_rfl) (H := ⟨[((280, 3, 1), ⟨[(9, .I), (10, .I)], []⟩)], [], [281], [], [], false, 64, KN.no, false, SP.no⟩) (n := 3) (by kernel_rfl) hh
theorem S80 {m k l e : Int} (hh : ∀ b : Bool → Prop, (∀ c : Bool, (∀ a : Bool → Prop, (∀ d : Bool, ((bif c then (bif d then (bif decide (e ≥ 0) then Q (.u (.b (decide (e ≤ 1099511627776)))) [] else Q (.u (.b false)) []) else Q (.u (.b false)) []) else Q (.u (.b false)) [])) → a d) → (bif decide (f ≥ 1) then (bif decide (f ≤ 16) then (bif decide (g ≥ 0) then (bif decide (g ≤ 10) then (bif decide (h ≥ 0) then (bif decide (h ≤ 10) then (bif decide (i ≥ -1) then a (decide (i ≤ 1000)) else a false) else a false) else a false) else a false) else a false) else a false) else a false)) → b c) → (bif decide (j ≥ 0) then (bif decide (j ≤ 1099511627776) then (bif decide (k ≥ 0) then (bif decide (k ≤ 4) then (bif decide (l ≥ 1) then b (decide (l ≤ 8)) else b false) else b false) else b false) else b false) else b false)) : PRun Tryz.prog 80 [] [(q25 m j k l f g h i e)] Q :=
 zad zfx Tryz.func80 (by kernel_rfl) (H := ⟨[], [((80, 2, 1), ⟨[(3, .B)], []⟩), ((80, 3, 1), ⟨[(4, .B)], []⟩)], [177], [], [], false, 64, KN.no, false, SP.no⟩) (n := 3) (by kernel_rfl) hh
theorem S181 {b : List (List U)} {c o : Int} (hh : (dup2 (PRun Tryz.prog 280 [] [.l 13 b, q16 o 0 0 0, .f 281 [] []] (post q12 [] (fun d e => (bif !e then Q (.t [(q25 0 0 0 0 0 0 0 0 0), .i 3]) [.c [.l 13 b, .i c]] else elL b d (fun a => dI .i64 (ug a 4) (fun f => dI .i64 (ug a 5) (fun g => dI .i64 (ug a 6) (fun h => dI .i64 (ug a 7) (fun i => dI .i64 (ug a 8) (fun j => dI .i64 (ug a 9) (fun k => dI .i64 (ug a 10) (fun l => dI .i64 (ug a 11) (fun m => dI .i64 (ug a 12) (fun n => Q (.t [(q25 f g h i j k l m n), .i 0]) [.c [.l 13 b, .i c]])))))))))) : Prop))))) ∧ (PRun Tryz.prog 280 [] [.l 13 b, q16 o 0 0 0, .f 281 [] []] (post q12 [] (fun d e => (bif !e then Q (.t [(q25 0 0 0 0 0 0 0 0 0), .i 3]) [.c [.l 13 b, .i c]] else elL b d (fun a => dI .i64 (ug a 4) (fun f => dI .i64 (ug a 5) (fun g => dI .i64 (ug a 6) (fun h => dI .i64 (ug a 7) (fun i => dI .i64 (ug a 8) (fun j => dI .i64 (ug a 9) (fun k => dI .i64 (ug a 10) (fun l => dI .i64 (ug a 11) (fun m => dI .i64 (ug a 12) (fun n => Q (.t [(q25 f g h i j k l m n), .i 0]) [.c [.l 13 b, .i c]])))))))))) : Prop))))) : PRun Tryz.prog 181 [.c [.l 13 b, .i c]] [.r 0 0, .i o] Q :=
 zad zfx Tryz.func181 (by kernel_rfl) (H := ⟨[], [], [83, 179, 267, 283], [], [], false, 64, KN.no, false, SP.no⟩) (n := 5) (by kernel_rfl) hh
theorem S82 {a : List (List U)} {s c e k l m o q : Int} (hh : PRun Tryz.prog 280 [] [.l 13 a, q16 c d e f, .f 281 [] []] (post q12 [] (fun b r => (0 ≤ b ∧ (b ≤ (zy6 a : Int) ∧ (zy6 a : Int) ≤ (zy6 a : Int) ∧ (∀ g : List (List U) → Prop, (∀ h : List (List U), ((0 : Int) ≤ b ∧ b ≤ (zy6 a : Int) ∧ b = b ∧ (zak (List.take (zy8 b) a) [[.n c, .n d, .n e, .n f, .n i, .n j, .n k, .n l, .n m, .n n, .n o, .n p, .n q]] ∧ (zak (List.take (zy8 b) a ++ [[.n c, .n d, .n e, .n f, .n i, .n j, .n k, .n l, .n m, .n n, .n o, .n p, .n q]]) h ∧ (Q (.u (.b (!r))) [.c [.w 1, .i s], .w 283 13 (List.take (zy8 b) a ++ [[.n c, .n d, .n e, .n f, .n i, .n j, .n k, .n l, .n m, .n n, .n o, .n p, .n q]] ++ h)])))) → g h) → (bif r then 0 ≤ (1 : Int) ∧ ((1 : Int) ≤ (zy6 (List.drop (zy8 b) (List.take (zy6 a) a)) : Int) ∧ (zy6 (List.drop (zy8 b) (List.take (zy6 a) a)) : Int) ≤ (zy6 (List.drop (zy8 b) (List.take (zy6 a) a)) : Int) ∧ (g (List.drop 1 (List.take (zy6 (List.drop (zy8 b) (List.take (zy6 a) a))) (List.drop (zy8 b) (List.take (zy6 a) a)))))) else g (List.drop (zy8 b) (List.take (zy6 a) a))))) : Prop)))) : PRun Tryz.prog 82 [.c [.l 13 a, .i s]] [.r 0 0, q16 c d e f, q25 i j k l m n o p q] Q :=
 zad zfx Tryz.func82 (by kernel_rfl) (H := ⟨[], [((82, 7, 4), ⟨[(9, .L 13)], []⟩)], [179, 267], [], [], false, 64, KN.no, false, SP.no⟩) (n := 4) (by kernel_rfl) hh
theorem S90 {r e : Int} (hh : PRun Tryz.prog 181 [.c [.l 13 q, .i r]] [.r 0 0, .i e] (post q5 q4 (fun h i j k l m n a s o b c => (bif o != 0 then Q (.i o) [.c [.l 13 b, .i c]] else ∀ f : Bool → Prop, (∀ p : Bool, ((bif p then Q (.i 1) [.c [.l 13 b, .i c]] else (bif s != 0 then Q (.i 12) [.c [.l 13 b, .i c]] else (bif a != -1 then (bif decide (a < g) then Q (.i 11) [.c [.l 13 b, .i c]] else (bif a != -1 then PRun Tryz.prog 82 [.c [.l 13 b, .i c]] [.r 0 0, q16 e 0 0 0, q25 h i j k l m n (zy5 .i64 (a - g)) d] (post [.B] q4 (fun γ t u => (Q (.i 0) [.c [.l 13 t, .i u]] : Prop))) else PRun Tryz.prog 82 [.c [.l 13 b, .i c]] [.r 0 0, q16 e 0 0 0, q25 h i j k l m n a d] (post [.B] q4 (fun δ v w => (Q (.i 0) [.c [.l 13 v, .i w]] : Prop))))) else (bif a != -1 then PRun Tryz.prog 82 [.c [.l 13 b, .i c]] [.r 0 0, q16 e 0 0 0, q25 h i j k l m n (zy5 .i64 (a - g)) d] (post [.B] q4 (fun ε x y => (Q (.i 0) [.c [.l 13 x, .i y]] : Prop))) else PRun Tryz.prog 82 [.c [.l 13 b, .i c]] [.r 0 0, q16 e 0 0 0, q25 h i j k l m n a d] (post [.B] q4 (fun ζ α β => (Q (.i 0) [.c [.l 13 α, .i β]] : Prop)))))))) → f p) → (bif decide (d ≥ 1) then (bif decide (d ≤ 1099511627776) then (bif decide (g ≥ 0) then f (!(decide (g ≤ 1000))) else f true) else f true) else f true) : Prop)))) : PRun Tryz.prog 90 [.c [.l 13 q, .i r]] [.r 0 0, .i e, .i d, .i g] Q :=
 zad zfx Tryz.func90 (by kernel_rfl) (H := ⟨[], [((197, 2, 4), ⟨[(5, .B)], []⟩)], [83, 177, 196, 197, 198], [], [], false, 64, KN.no, false, SP.no⟩) (n := 6) (by kernel_rfl) hh
theorem S97 {r : Int} (hh : PRun Tryz.prog 181 [.c [.l 13 q, .i r]] [.r 0 0, .i d] (post q5 q4 (fun g h i j k l m a s o b c => (bif o != 0 then Q (.i o) [.c [.l 13 b, .i c]] else ∀ e : Bool → Prop, (∀ p : Bool, ((bif p then Q (.i 1) [.c [.l 13 b, .i c]] else (bif s != n then Q (.i 9) [.c [.l 13 b, .i c]] else (bif a != -1 then (bif decide (zy5 .i64 (a + f) > 1000) then Q (.i 11) [.c [.l 13 b, .i c]] else (bif a != -1 then PRun Tryz.prog 82 [.c [.l 13 b, .i c]] [.r 0 0, q16 d 0 0 0, q25 g h i j k l m (zy5 .i64 (a + f)) 0] (post [.B] q4 (fun γ t u => (Q (.i 0) [.c [.l 13 t, .i u]] : Prop))) else PRun Tryz.prog 82 [.c [.l 13 b, .i c]] [.r 0 0, q16 d 0 0 0, q25 g h i j k l m a 0] (post [.B] q4 (fun δ v w => (Q (.i 0) [.c [.l 13 v, .i w]] : Prop))))) else (bif a != -1 then PRun Tryz.prog 82 [.c [.l 13 b, .i c]] [.r 0 0, q16 d 0 0 0, q25 g h i j k l m (zy5 .i64 (a + f)) 0] (post [.B] q4 (fun ε x y => (Q (.i 0) [.c [.l 13 x, .i y]] : Prop))) else PRun Tryz.prog 82 [.c [.l 13 b, .i c]] [.r 0 0, q16 d 0 0 0, q25 g h i j k l m a 0] (post [.B] q4 (fun ζ α β => (Q (.i 0) [.c [.l 13 α, .i β]] : Prop)))))))) → e p) → (bif decide (n ≥ 1) then (bif decide (n ≤ 1099511627776) then (bif decide (f ≥ 0) then e (!(decide (f ≤ 1000))) else e true) else e true) else e true) : Prop)))) : PRun Tryz.prog 97 [.c [.l 13 q, .i r]] [.r 0 0, .i d, .i n, .i f] Q :=
 zad zfx Tryz.func97 (by kernel_rfl) (H := ⟨[], [((208, 2, 4), ⟨[(5, .B)], []⟩)], [83, 177, 196, 198, 208], [], [], false, 64, KN.no, false, SP.no⟩) (n := 6) (by kernel_rfl) hh
theorem S206 {i : List (List U)} {e c : Int} (hh : PRun Tryz.prog 181 [.c [.l 13 i, .i j]] [.r 0 0, .i e] (post q5 q4 (fun k l m n o f g p q h a b => (bif h != 0 then Q (.i h) [.c [.l 13 a, .i b]] else (bif decide (c < 0) then Q (.i 1) [.c [.l 13 a, .i b]] else (bif decide (d < 0) then Q (.i 1) [.c [.l 13 a, .i b]] else (bif decide (c > zy5 .i64 (10 - f)) then Q (.i 11) [.c [.l 13 a, .i b]] else (bif decide (d > zy5 .i64 (10 - g)) then Q (.i 11) [.c [.l 13 a, .i b]] else PRun Tryz.prog 82 [.c [.l 13 a, .i b]] [.r 0 0, q16 e 0 0 0, q25 k l m n o (zy5 .i64 (f + c)) (zy5 .i64 (g + d)) p q] (post [.B] q4 (fun t r s => (Q (.i 0) [.c [.l 13 r, .i s]] : Prop))))))) : Prop)))) : PRun Tryz.prog 206 [.c [.l 13 i, .i j]] [.r 0 0, .i e, .i c, .i d] Q :=
 zad zfx Tryz.func206 (by kernel_rfl) (H := ⟨[], [], [83, 196, 299], [], [], false, 64, KN.no, false, SP.no⟩) (n := 4) (by kernel_rfl) hh
theorem S28 {b : List (List U)} {k e c : Int} (hh : PRun Tryz.prog 80 [] [(q25 k d e f g h i j c)] (post [.B] [] (fun l => (bif !l then Q (.t [.i 0, .i 1]) [.c [.l 13 b, .i a]] else (bif c != 0 then Q (.t [.i 0, .i 1]) [.c [.l 13 b, .i a]] else (bif decide (zy5 .i64 ((zy6 b : Int) + 1) ≤ 64) then (bif !(decide (zy5 .i64 (a + 1) ≤ 1099511627775)) then Q (.t [.i 0, .i 4]) [.c [.l 13 b, .i a]] else PRun Tryz.prog 82 [.c [.l 13 b, .i (zy5 .i64 (a + 1))]] [.r 0 0, q16 (zy5 .i64 (a + 1)) 0 0 0, q25 (zy5 .i64 (a + 1)) d e f g h i j c] (post [.B] q4 (fun o m n => (Q (.t [.i (zy5 .i64 (a + 1)), .i 0]) [.c [.l 13 m, .i n]] : Prop)))) else Q (.t [.i 0, .i 4]) [.c [.l 13 b, .i a]])) : Prop)))) : PRun Tryz.prog 28 [.c [.l 13 b, .i a]] [.r 0 0, q25 k d e f g h i j c] Q :=
 zad zfx Tryz.func28 (by kernel_rfl) (H := ⟨[], [], [68, 81, 83, 178, 267], [], [], false, 64, KN.no, false, SP.no⟩) (n := 5) (by kernel_rfl) hh
theorem S207 {q : Int} (hh : PRun Tryz.prog 181 [.c [.l 13 o, .i p]] [.r 0 0, .i q] (post q5 q4 (fun r s t u v w x y α k a b => (bif k != 0 then Q (.t [.l 1 [], .i k]) [.c [.l 13 a, .i b]] else (bif decide (d ≥ 1) then (bif !(decide (d ≤ 10)) then Q (.t [.l 1 [], .i 1]) [.c [.l 13 a, .i b]] else (bif decide (h ≥ 1) then (bif !(decide (h ≤ 1000)) then Q (.t [.l 1 [], .i 1]) [.c [.l 13 a, .i b]] else (bif y != -1 then Q (.t [.l 1 [], .i 9]) [.c [.l 13 a, .i b]] else (bif decide (zy5 .i64 ((zy6 a : Int) + d) ≤ 64) then (bif !(decide (zy5 .i64 (b + 1) ≤ zy5 .i64 (1099511627776 - d))) then Q (.t [.l 1 [], .i 4]) [.c [.l 13 a, .i b]] else ∃ (i : List (List U) → Int → List (List U) → Int → Prop) (l : List (List U) → Int → List (List U) → Int → Nat), i [] 0 a b ∧ (∀ c : List (List U), ∀ e : Int, ∀ f : List (List U), ∀ g : Int, i c e f g → (bif decide (e < d) then PRun Tryz.prog 28 [.c [.l 13 f, .i g]] [.r 0 0, q25 r s t u v w x h 0] (post q10 q4 (fun j β m n => (zak c [[.n j]] ∧ (i (c ++ [[.n j]]) (zy5 .i64 (e + 1)) m n ∧ l (c ++ [[.n j]]) (zy5 .i64 (e + 1)) m n < l c e f g) : Prop))) else Q (.t [.l 1 c, .i 0]) [.c [.l 13 f, .i g]]))) else Q (.t [.l 1 [], .i 4]) [.c [.l 13 a, .i b]]))) else Q (.t [.l 1 [], .i 1]) [.c [.l 13 a, .i b]])) else Q (.t [.l 1 [], .i 1]) [.c [.l 13 a, .i b]]) : Prop)))) : PRun Tryz.prog 207 [.c [.l 13 o, .i p]] [.r 0 0, .i q, .i d, .i h] Q :=
 zad zfx Tryz.func207 (by kernel_rfl) (H := ⟨[((207, 13, 2), ⟨[(12, .one (.ow 3 1)), (47, .I)], [(0, .c [.l 13, .i .i64])]⟩)], [], [68, 81, 177, 178, 267], [], [], false, 64, KN.no, false, SP.no⟩) (n := 5) (by kernel_rfl) hh
end
section
set_option maxRecDepth 1000000
variable {Q : V → Mem → Prop}
structure Dr where
 id : Int
 own : Int
 div : Int
 place : Int
 blue : Int
 me : Int
 te : Int
 runs : Int
 busy : Int
abbrev rV (d : Dr) : V := .a [.i d.id, .i d.own, .i d.div, .i d.place, .i d.blue, .i d.me, .i d.te, .i d.runs, .i d.busy]
def eD (d : Dr) : List U := [.n d.id, .n 0, .n 0, .n 0, .n d.id, .n d.own, .n d.div, .n d.place, .n d.blue, .n d.me, .n d.te, .n d.runs, .n d.busy]
def dRw (d : Dr) : List U := [.n d.id, .n d.own, .n d.div, .n d.place, .n d.blue, .n d.me, .n d.te, .n d.runs, .n d.busy]
def rZ : Dr := ⟨0, 0, 0, 0, 0, 0, 0, 0, 0⟩
abbrev drB (ds : List Dr) (g : Int) : AB := .c [.l 13 (ds.map eD), .i g]
def DNum (ds : List Dr) : Prop := ∀ (i : Nat) (d : Dr), ds[i]? = some d → d.id = (i : Int) + 1
def posD (n : Nat) (id : Int) : Nat := min (id - 1).toNat n
theorem keyLt : (K4.mk a 0 0 0).lt ⟨b, 0, 0, 0⟩ ↔ a < b := by unfold K4.lt; simp only; omega
theorem zvs {ds : List Dr} {id : Int} (hd : DNum ds) (hl : ds.length ≤ 100000) (k : Q (.t [.i (posD ds.length id : Nat), .u (.b (decide (1 ≤ id ∧ id ≤ (ds.length : Int))))]) []) :
 PRun Tryz.prog 280 [] [.l 13 (ds.map eD), kV ⟨id, 0, 0, 0⟩, .f 281 [] []] Q := by
 have hlen : ((ds.map eD).length : Int) = (ds.length : Int) := by rw [zzc]
 refine S280 ⟨fun x y => ∃ a b : Nat, x = (a : Int) ∧ y = (b : Int) ∧ a ≤ b ∧ b ≤ ds.length ∧ ((a : Int) < id ∨ a = 0) ∧ (id ≤ (b : Int) + 1 ∨ b = ds.length), fun x y => (y - x).toNat, ⟨0, ds.length, rfl, hlen, zz3 _, zzk _, .inr rfl, .inr rfl⟩, ?_⟩
 rintro _ _ ⟨a, b, rfl, rfl, hab, hbl, h1, h2⟩
 refine cIf (fun h => ?_) fun h => ?_
 · have hlt : a < b := by omega
   have e1 : zy5 .i64 ((a : Int) + b) = (a : Int) + b := w64 (by omega) (by omega)
   have e2 : zy5 .u64 ((a : Int) + b) = (a : Int) + b := by rw [z29]; omega
   have e3 : Int.fdiv ((a : Int) + b) (2 ^ 1) = (((a + b) / 2 : Nat) : Int) := by
    rw [← Int.natCast_add]
    show Int.fdiv ((a + b : Nat) : Int) 2 = _
    rw [z3g _ (by omega)]
    omega
   have e4 : zy5 .i64 (((a + b) / 2 : Nat) : Int) = (((a + b) / 2 : Nat) : Int) := w64 (by omega) (by omega)
   rw [e1, e2, show ((2 : Int) ^ (1 : Nat)) = 2 ^ 1 from rfl, e3, e4]
   generalize hm : (a + b) / 2 = m
   have hml : m < ds.length := by omega
   have hg := zzb hml
   have hid := hd m _ hg
   refine ⟨by omega, ?_⟩
   rw [zah (r := eD ds[m]) (by omega) (by simp [hml])]
   simp only [eD, ug0, ugs, zbo]
   refine zs2 (x := ⟨ds[m].id, 0, 0, 0⟩) (y := ⟨id, 0, 0, 0⟩) ?_
   rw [zaw]
   have e5 : zy5 .i64 ((m : Int) + 1) = ((m + 1 : Nat) : Int) := by rw [w64 (by omega) (by omega)]; omega
   rw [e5]
   refine cIf (fun hc => ?_) fun hc => ?_
   · rw [zht, keyLt] at hc
     exact ⟨⟨m + 1, b, rfl, rfl, by omega, hbl, .inl (by omega), h2⟩, by omega⟩
   · rw [zht, keyLt] at hc
     exact ⟨⟨a, m, rfl, rfl, by omega, by omega, h1, .inl (by omega)⟩, by omega⟩
 · have : a = b := by omega
   subst this
   have hp : posD ds.length id = a := by unfold posD; omega
   rw [hp] at k
   rw [hlen]
   refine cIf (fun hlt => ?_) fun hge => ?_
   · have hal : a < ds.length := by omega
     have hg := zzb hal
     have hid := hd a _ hg
     rw [zah (r := eD ds[a]) (by omega) (by simp [hal])]
     simp only [eD, ug0, ugs, zbo]
     refine zs2 (x := ⟨ds[a].id, 0, 0, 0⟩) (y := ⟨id, 0, 0, 0⟩) ?_
     rw [zaw]
     have : (cmpK ⟨ds[a].id, 0, 0, 0⟩ ⟨id, 0, 0, 0⟩ == 0) = decide (1 ≤ id ∧ id ≤ (ds.length : Int)) := by
      rw [Bool.eq_iff_iff, beq_iff_eq, cmpK_zero, decide_eq_true_eq]
      constructor
      · intro h
        have := congrArg K4.a h
        simp only at this
        omega
      · intro h
        rw [show ds[a].id = id by omega]
     rw [this]
     exact k
   · rw [decide_eq_false (by omega)] at k
     exact k
theorem zwr {F : Int → Bool → Prop} {x : Bool} : post [.I, .B] [] F (.t [.i n, .u (.b x)]) [] = F n x := rfl
theorem zx7 {ds : List Dr} {id : Int} (hd : DNum ds) (hl : ds.length ≤ 100000) (k1 : (id < 1 ∨ (ds.length : Int) < id) → Q (.t [rV rZ, .i 3]) [drB ds g])
 (k2 : ∀ (i : Nat) (d : Dr), ds[i]? = some d → id = (i : Int) + 1 → Q (.t [rV d, .i 0]) [drB ds g]) : PRun Tryz.prog 181 [drB ds g] [.r 0 0, .i id] Q := by
 have main : PRun Tryz.prog 280 [] [.l 13 (ds.map eD), kV ⟨id, 0, 0, 0⟩, .f 281 [] []] (post [.I, .B] [] (fun x1 b1 => (bif !b1 then Q (.t [.a [.i 0, .i 0, .i 0, .i 0, .i 0, .i 0, .i 0, .i 0, .i 0], .i 3]) [.c [.l 13 (ds.map eD), .i g]] else elL (ds.map eD) x1 (fun r1 => dI .i64 (ug r1 4) (fun x2 => dI .i64 (ug r1 5) (fun x3 => dI .i64 (ug r1 6) (fun x4 => dI .i64 (ug r1 7) (fun x5 => dI .i64 (ug r1 8) (fun x6 => dI .i64 (ug r1 9) (fun x7 => dI .i64 (ug r1 10) (fun x8 => dI .i64 (ug r1 11) (fun x9 => dI .i64 (ug r1 12) (fun x10 => Q (.t [.a [.i x2, .i x3, .i x4, .i x5, .i x6, .i x7, .i x8, .i x9, .i x10], .i 0]) [.c [.l 13 (ds.map eD), .i g]])))))))))) : Prop))) := by
  refine zvs hd hl ?_
  rw [zwr]
  by_cases h : 1 ≤ id ∧ id ≤ (ds.length : Int)
  · rw [decide_eq_true h]
    have hp : posD ds.length id = (id - 1).toNat := by unfold posD; omega
    obtain ⟨i, hi⟩ := z1f (show 0 ≤ id - 1 by omega)
    have hil : i < ds.length := by omega
    have hg := zzb hil
    rw [hp, hi, zzs]
    simp only [z0p, cond_false]
    rw [zah (r := eD ds[i]) (by omega) (by simp [hil])]
    simp only [eD, ug0, ugs, zbo]
    exact k2 i _ hg (by omega)
  · rw [decide_eq_false h]
    exact k1 (by omega)
 refine S181 ?_
 exact ⟨⟨main, main⟩, main⟩
theorem zgj {F : Bool → List (List U) → Int → Prop} {x : Bool} {r : List (List U)} : post [.B] [.c [.l 13, .i .i64]] F (.u (.b x)) [.c [.l 13 r, .i n]] = F x r n := rfl
theorem putRows {R : List (List U)} {row : List U} {p : Nat} {b : Bool} (hp : p ≤ R.length) (hb : b = true → p < R.length) (hl : R.length ≤ 999999) {K : List (List U) → Prop} (hK : K (R.take p ++ [row] ++ R.drop (bif b then p + 1 else p))) :
 0 ≤ ((p : Nat) : Int) ∧ (((p : Nat) : Int) ≤ (zy6 R : Int) ∧ (zy6 R : Int) ≤ (zy6 R : Int) ∧ (∀ k1 : List (List U) → Prop, (∀ l1 : List (List U), ((0 : Int) ≤ ((p : Nat) : Int) ∧ ((p : Nat) : Int) ≤ (zy6 R : Int) ∧ ((p : Nat) : Int) = ((p : Nat) : Int) ∧ (zak (List.take (zy8 ((p : Nat) : Int)) R) [row] ∧ (zak (List.take (zy8 ((p : Nat) : Int)) R ++ [row]) l1 ∧ (K (List.take (zy8 ((p : Nat) : Int)) R ++ [row] ++ l1))))) → k1 l1) → (bif b then 0 ≤ (1 : Int) ∧ ((1 : Int) ≤ (zy6 (List.drop (zy8 ((p : Nat) : Int)) (List.take (zy6 R) R)) : Int) ∧ (zy6 (List.drop (zy8 ((p : Nat) : Int)) (List.take (zy6 R) R)) : Int) ≤ (zy6 (List.drop (zy8 ((p : Nat) : Int)) (List.take (zy6 R) R)) : Int) ∧ (k1 (List.drop 1 (List.take (zy6 (List.drop (zy8 ((p : Nat) : Int)) (List.take (zy6 R) R))) (List.drop (zy8 ((p : Nat) : Int)) (List.take (zy6 R) R)))))) else k1 (List.drop (zy8 ((p : Nat) : Int)) (List.take (zy6 R) R))))) := by
 simp only [zzs, z0m]
 refine ⟨by omega, by omega, zzw _, fun k1 hk1 => ?_⟩
 have fin : ∀ l1 : List (List U), l1 = R.drop (bif b then p + 1 else p) → k1 l1 := fun l1 h => by
  subst h
  refine hk1 _ ⟨by omega, by omega, by first | trivial | rfl, ?_, ?_, hK⟩
  · unfold zak; simp; omega
  · unfold zak; cases b <;> simp <;> omega
 cases b with
 | true =>
   have := hb rfl
   refine ⟨by decide, by rw [z1w]; omega, zzw _, fin _ ?_⟩
   rw [z1j]
   rfl
 | false => exact fin _ rfl
theorem put_D {ds : List Dr} {d : Dr} (hd : DNum ds) (hl : ds.length ≤ 100000) (hid : 1 ≤ d.id ∧ d.id ≤ (ds.length : Int) + 1) (k1 : d.id ≤ (ds.length : Int) → Q (.u (.b false)) [drB (ds.set (d.id - 1).toNat d) g]) (k2 : d.id = (ds.length : Int) + 1 → Q (.u (.b true)) [drB (ds ++ [d]) g]) :
 PRun Tryz.prog 82 [drB ds g] [.r 0 0, kV ⟨d.id, 0, 0, 0⟩, rV d] Q := by
 refine PRun.trim (PRun.frz 0 0 (S82 (zvs hd hl ?_)))
 rw [zwr]
 have hp : posD ds.length d.id = (d.id - 1).toNat := by unfold posD; omega
 rw [hp]
 refine putRows (R := ds.map eD) (row := eD d) (p := (d.id - 1).toNat) (b := decide (1 ≤ d.id ∧ d.id ≤ (ds.length : Int))) (K := fun R => Q (.u (.b (!decide (1 ≤ d.id ∧ d.id ≤ (ds.length : Int))))) [.c [.l 13 R, .i g]]) (by rw [zzc]; omega) (fun h => by have h := of_decide_eq_true h; rw [zzc]; omega) (by rw [zzc]; omega) ?_
 by_cases h : d.id ≤ (ds.length : Int)
 · rw [decide_eq_true (show 1 ≤ d.id ∧ d.id ≤ (ds.length : Int) from ⟨hid.1, h⟩)]
   have hlt : (d.id - 1).toNat < ds.length := by omega
   have := k1 h
   rw [List.set_eq_take_append_cons_drop, if_pos hlt] at this
   simp only [drB, zz2, zzv, z1e, z1s] at this
   have e : List.take (d.id - 1).toNat (zzq eD ds) ++ [eD d] ++ List.drop ((d.id - 1).toNat + 1) (zzq eD ds) = List.take (d.id - 1).toNat (zzq eD ds) ++ eD d :: List.drop ((d.id - 1).toNat + 1) (zzq eD ds) := by simp
   rw [← e] at this
   exact this
 · have he : d.id = (ds.length : Int) + 1 := by omega
   rw [decide_eq_false (by omega)]
   have hn : (d.id - 1).toNat = ds.length := by omega
   rw [hn]
   have := k2 he
   simp only [drB, zz2, zzv, z1m] at this
   have e : List.take ds.length (zzq eD ds) ++ [eD d] ++ List.drop ds.length (zzq eD ds) = zzq eD ds ++ [eD d] := by
    rw [z06 (by simp), z05 (by simp), zz7]
   rw [← e] at this
   exact this
def isD (d : Dr) : Bool := (inJ d.own 0 1099511627776 && (inJ d.div 0 4 && inJ d.place 1 8)) && ((inJ d.blue 1 16 && (inJ d.me 0 10 && (inJ d.te 0 10 && inJ d.runs (-1) 1000))) && inJ d.busy 0 1099511627776)
theorem zf2 {d : Dr} (h : isD d = true) : (0 ≤ d.own ∧ d.own ≤ 1099511627776) ∧ (0 ≤ d.div ∧ d.div ≤ 4) ∧ (1 ≤ d.place ∧ d.place ≤ 8) ∧ (1 ≤ d.blue ∧ d.blue ≤ 16) ∧ (0 ≤ d.me ∧ d.me ≤ 10) ∧ (0 ≤ d.te ∧ d.te ≤ 10) ∧ (-1 ≤ d.runs ∧ d.runs ≤ 1000) ∧ (0 ≤ d.busy ∧ d.busy ≤ 1099511627776) := by
 unfold isD at h
 simp only [zy9, inJ_iff] at h
 exact ⟨h.1.1, h.1.2.1, h.1.2.2, h.2.1.1, h.2.1.2.1, h.2.1.2.2.1, h.2.1.2.2.2, h.2.2⟩
theorem is_D {d : Dr} (K : Q (.u (.b (isD d))) []) : PRun Tryz.prog 80 [] [rV d] Q := by
 refine S80 ?_
 generalize hk : (fun b => Q (.u (.b b)) []) = k
 have e : ∀ b, Q (.u (.b b)) [] = k b := fun b => by rw [← hk]
 rw [e] at K
 simp only [e]
 intro k1 hk1
 have c1 : k1 (inJ d.own 0 1099511627776 && (inJ d.div 0 4 && inJ d.place 1 8)) := by
  refine hk1 _ ?_
  intro k2 hk2
  have c2 : k2 (inJ d.blue 1 16 && (inJ d.me 0 10 && (inJ d.te 0 10 && inJ d.runs (-1) 1000))) := by
   refine hk2 _ ?_
   unfold isD at K
   refine kAn K fun h => kAn h fun h => ?_
   unfold inJ at h
   exact kAn h fun h => h
  unfold inJ at c2
  simp only [z3a] at c2
  exact kAn c2 fun h => kAn h fun h => kAn h fun h => kAn h fun h => kAn h fun h => kAn h fun h => kAn h fun h => h
 unfold inJ at c1
 simp only [z3a] at c1
 exact kAn c1 fun h => kAn h fun h => kAn h fun h => kAn h fun h => kAn h fun h => h
def zhf (job runs : Int) : Bool := inJ job 1 1099511627776 && inJ runs 0 1000
theorem kAnN {k : Bool → Prop} {c r : Bool} {T : Prop} (h : k (!(c && r))) (hT : k (!r) → T) : bif c then T else k true := by
 cases c with
 | true => exact hT h
 | false => exact h
theorem zdb {F : Int → Int → Int → Int → Int → Int → Int → Int → Int → Int → List (List U) → Int → Prop} {d : Dr} {e : Int} {r : List (List U)} : post [.agg [.i .i64, .i .i64, .i .i64, .i .i64, .i .i64, .i .i64, .i .i64, .i .i64, .i .i64], .I] [.c [.l 13, .i .i64]] F (.t [rV d, .i e]) [.c [.l 13 r, .i n]] = F d.id d.own d.div d.place d.blue d.me d.te d.runs d.busy e r n := rfl
def useE (d : Dr) (job runs : Int) : Int := if zhf job runs = false then 1 else if d.busy ≠ 0 then 12 else if d.runs ≠ -1 ∧ d.runs < runs then 11 else 0
def zun (d : Dr) (job runs : Int) : Dr := { d with busy := job, runs := if d.runs ≠ -1 then d.runs - runs else d.runs }
def zub (d : Dr) (job runs : Int) : Int := if zhf job runs = false then 1 else if d.busy ≠ job then 9 else if d.runs ≠ -1 ∧ d.runs + runs > 1000 then 11 else 0
def zo3 (d : Dr) (runs : Int) : Dr := { d with busy := 0, runs := if d.runs ≠ -1 then d.runs + runs else d.runs }
def zcs (d : Dr) (me te : Int) : Int := if me < 0 ∨ te < 0 then 1 else if me > 10 - d.me ∨ te > 10 - d.te then 11 else 0
def ze8 (d : Dr) (me te : Int) : Dr := { d with me := d.me + me, te := d.te + te }
section
variable {ds : List Dr} {g id : Int}
theorem uses_k {job runs : Int} {kk : Bool → Prop} (h : kk (!zhf job runs)) : bif decide (job ≥ 1) then (bif decide (job ≤ 1099511627776) then (bif decide (runs ≥ 0) then kk (!(decide (runs ≤ 1000))) else kk true) else kk true) else kk true := by
 unfold zhf inJ at h
 simp only [z3a] at h
 exact kAnN h fun h => kAnN h fun h => kAnN h fun h => h
theorem zn7 {i : Nat} {d d' : Dr} {k0 : Int} (hd : DNum ds) (hl : ds.length ≤ 100000) (hg : ds[i]? = some d) (hk : k0 = (i : Int) + 1) (he : d'.id = d.id) (k : Q (.u (.b false)) [drB (ds.set i d') g]) :
 PRun Tryz.prog 82 [drB ds g] [.r 0 0, kV ⟨k0, 0, 0, 0⟩, rV d'] Q := by
 have hlt := (zza.1 hg).1
 have hid := hd i d hg
 have e1 : k0 = d'.id := by omega
 subst e1
 refine put_D hd hl (by omega) (fun _ => ?_) fun h => by omega
 rw [show (d'.id - 1).toNat = i by omega]
 exact k
theorem use_D {job runs : Int} (hd : DNum ds) (hl : ds.length ≤ 100000) (ho : ∀ d ∈ ds, isD d = true) (k1 : (id < 1 ∨ (ds.length : Int) < id) → Q (.i 3) [drB ds g])
 (k2 : ∀ (i : Nat) (d : Dr), ds[i]? = some d → id = (i : Int) + 1 → useE d job runs ≠ 0 → Q (.i (useE d job runs)) [drB ds g])
 (k3 : ∀ (i : Nat) (d : Dr), ds[i]? = some d → id = (i : Int) + 1 → useE d job runs = 0 → Q (.i 0) [drB (ds.set i (zun d job runs)) g]) : PRun Tryz.prog 90 [drB ds g] [.r 0 0, .i id, .i job, .i runs] Q := by
 refine S90 (zx7 hd hl (fun h => ?_) fun i d hg hid => ?_)
 · rw [zdb]
   exact cNe (fun _ => k1 h) fun h => absurd h (by decide)
 rw [zdb]
 have k2 := k2 i d hg hid
 have k3 := k3 i d hg hid
 refine cNe (fun h => absurd rfl h) fun _ => ?_
 intro kk hkk
 refine uses_k (hkk _ ?_)
 unfold useE at k2 k3
 cases hu : zhf job runs with
 | false =>
   rw [if_pos hu] at k2
   exact k2 (by decide)
 | true =>
   have hru : 0 ≤ runs ∧ runs ≤ 1000 := by
    unfold zhf at hu
    simp only [zy9, inJ_iff] at hu
    exact hu.2
   have hdd := zf2 (ho d (zzf hg))
   rw [if_neg (by rw [hu]; decide)] at k2 k3
   refine cNe (fun h => ?_) fun h => ?_
   · rw [if_pos h] at k2
     exact k2 (by decide)
   rw [if_neg (by omega)] at k2 k3
   rw [w64 (x := d.runs - runs) (by omega) (by omega)]
   refine cNe (fun h5 => cIf (fun h6 => ?_) fun h6 => cNe (fun _ => ?_) fun h => absurd h h5) fun h5 => cNe (fun h => absurd h5 h) fun _ => ?_
   · rw [if_pos ⟨h5, h6⟩] at k2
     exact k2 (by decide)
   · rw [if_neg (by omega)] at k3
     refine zn7 (d' := { d with busy := job, runs := d.runs - runs }) hd hl hg hid rfl ?_
     rw [zgj]
     have := k3 rfl
     unfold zun at this
     rw [if_pos h5] at this
     exact this
   · rw [if_neg (by omega)] at k3
     refine zn7 (d' := { d with busy := job }) hd hl hg hid rfl ?_
     rw [zgj]
     have := k3 rfl
     unfold zun at this
     rw [if_neg (by omega)] at this
     exact this
theorem free_D {job runs : Int} (hd : DNum ds) (hl : ds.length ≤ 100000) (ho : ∀ d ∈ ds, isD d = true) (k1 : (id < 1 ∨ (ds.length : Int) < id) → Q (.i 3) [drB ds g])
 (k2 : ∀ (i : Nat) (d : Dr), ds[i]? = some d → id = (i : Int) + 1 → zub d job runs ≠ 0 → Q (.i (zub d job runs)) [drB ds g])
 (k3 : ∀ (i : Nat) (d : Dr), ds[i]? = some d → id = (i : Int) + 1 → zub d job runs = 0 → Q (.i 0) [drB (ds.set i (zo3 d runs)) g]) : PRun Tryz.prog 97 [drB ds g] [.r 0 0, .i id, .i job, .i runs] Q := by
 refine S97 (zx7 hd hl (fun h => ?_) fun i d hg hid => ?_)
 · rw [zdb]
   exact cNe (fun _ => k1 h) fun h => absurd h (by decide)
 rw [zdb]
 have k2 := k2 i d hg hid
 have k3 := k3 i d hg hid
 refine cNe (fun h => absurd rfl h) fun _ => ?_
 intro kk hkk
 refine uses_k (hkk _ ?_)
 unfold zub at k2 k3
 cases hu : zhf job runs with
 | false =>
   rw [if_pos hu] at k2
   exact k2 (by decide)
 | true =>
   have hru : 0 ≤ runs ∧ runs ≤ 1000 := by
    unfold zhf at hu
    simp only [zy9, inJ_iff] at hu
    exact hu.2
   have hdd := zf2 (ho d (zzf hg))
   rw [if_neg (by rw [hu]; decide)] at k2 k3
   refine cNe (fun h => ?_) fun h => ?_
   · rw [if_pos h] at k2
     exact k2 (by decide)
   rw [if_neg (by omega)] at k2 k3
   rw [w64 (x := d.runs + runs) (by omega) (by omega)]
   refine cNe (fun h5 => cIf (fun h6 => ?_) fun h6 => cNe (fun _ => ?_) fun h => absurd h h5) fun h5 => cNe (fun h => absurd h5 h) fun _ => ?_
   · rw [if_pos ⟨h5, h6⟩] at k2
     exact k2 (by decide)
   · rw [if_neg (by omega)] at k3
     refine zn7 (d' := { d with busy := 0, runs := d.runs + runs }) hd hl hg hid rfl ?_
     rw [zgj]
     have := k3 rfl
     unfold zo3 at this
     rw [if_pos h5] at this
     exact this
   · rw [if_neg (by omega)] at k3
     refine zn7 (d' := { d with busy := 0 }) hd hl hg hid rfl ?_
     rw [zgj]
     have := k3 rfl
     unfold zo3 at this
     rw [if_neg (by omega)] at this
     exact this
theorem zxl {me te : Int} (hd : DNum ds) (hl : ds.length ≤ 100000) (ho : ∀ d ∈ ds, isD d = true) (k1 : (id < 1 ∨ (ds.length : Int) < id) → Q (.i 3) [drB ds g])
 (k2 : ∀ (i : Nat) (d : Dr), ds[i]? = some d → id = (i : Int) + 1 → zcs d me te ≠ 0 → Q (.i (zcs d me te)) [drB ds g])
 (k3 : ∀ (i : Nat) (d : Dr), ds[i]? = some d → id = (i : Int) + 1 → zcs d me te = 0 → Q (.i 0) [drB (ds.set i (ze8 d me te)) g]) : PRun Tryz.prog 206 [drB ds g] [.r 0 0, .i id, .i me, .i te] Q := by
 refine S206 (zx7 hd hl (fun h => ?_) fun i d hg hid => ?_)
 · rw [zdb]
   exact cNe (fun _ => k1 h) fun h => absurd h (by decide)
 rw [zdb]
 have k2 := k2 i d hg hid
 have k3 := k3 i d hg hid
 have hdd := zf2 (ho d (zzf hg))
 unfold zcs at k2 k3
 rw [w64 (x := 10 - d.me) (by omega) (by omega), w64 (x := 10 - d.te) (by omega) (by omega)]
 refine cNe (fun h => absurd rfl h) fun _ => cIf (fun h => ?_) fun h1 => cIf (fun h => ?_) fun h2 => ?_
 · rw [if_pos (.inl h)] at k2; exact k2 (by decide)
 · rw [if_pos (.inr h)] at k2; exact k2 (by decide)
 rw [if_neg (by omega)] at k2 k3
 refine cIf (fun h => ?_) fun h3 => cIf (fun h => ?_) fun h4 => ?_
 · rw [if_pos (.inl h)] at k2; exact k2 (by decide)
 · rw [if_pos (.inr h)] at k2; exact k2 (by decide)
 rw [if_neg (by omega)] at k3
 rw [w64 (x := d.me + me) (by omega) (by omega), w64 (x := d.te + te) (by omega) (by omega)]
 refine zn7 (d' := ze8 d me te) hd hl hg hid rfl ?_
 rw [zgj]
 exact k3 rfl
def zv6 (len g n : Int) : Prop := len + n ≤ 64 ∧ g + 1 ≤ 1099511627776 - n
theorem add_D {d : Dr} (hd : DNum ds) (hg : g = (ds.length : Int)) (hl : ds.length ≤ 100000) (k1 : isD d = false ∨ d.busy ≠ 0 → Q (.t [.i 0, .i 1]) [drB ds g]) (k2 : ¬ zv6 ds.length g 1 → Q (.t [.i 0, .i 4]) [drB ds g])
 (k3 : isD d = true → d.busy = 0 → zv6 ds.length g 1 → Q (.t [.i (g + 1), .i 0]) [drB (ds ++ [{ d with id := g + 1 }]) (g + 1)]) : PRun Tryz.prog 28 [drB ds g] [.r 0 0, rV d] Q := by
 refine S28 (is_D ?_)
 rw [zbk]
 cases hi : isD d with
 | false => exact k1 (.inl hi)
 | true =>
   rw [z0p, cond_false, zzc, w64 (x := (ds.length : Int) + 1) (by omega) (by omega), w64 (x := g + 1) (by omega) (by omega)]
   unfold zv6 at k2 k3
   refine cNe (fun h => k1 (.inr h)) fun hb => cIf (fun h1 => ?_) fun h1 => k2 (by omega)
   cases h2 : decide (g + 1 ≤ 1099511627775) with
   | false => rw [decide_eq_false_iff_not] at h2; exact k2 (by omega)
   | true =>
     rw [decide_eq_true_eq] at h2
     rw [z0p, cond_false]
     refine put_D (d := { d with id := g + 1 }) (g := g + 1) hd hl (by simp only; omega) (fun h => by simp only at h; omega) fun _ => ?_
     rw [zgj]
     exact k3 hi hb ⟨by omega, by omega⟩
theorem DNum.app {d : Dr} (hd : DNum ds) (h : d.id = (ds.length : Int) + 1) : DNum (ds ++ [d]) := fun i x hx => by
 rcases z01 i ds.length with hi | hi
 · rw [zzi hi] at hx
   exact hd i x hx
 · rw [zzz hi] at hx
   cases hk : i - ds.length with
   | zero => rw [hk] at hx; cases hx; omega
   | succ k => rw [hk] at hx; simp at hx
theorem DNum.set {i : Nat} {d d' : Dr} (hd : DNum ds) (hg : ds[i]? = some d) (h : d'.id = d.id) : DNum (ds.set i d') := fun j x hx => by
 rw [List.getElem?_set] at hx
 split at hx
 · rename_i e
   subst e
   split at hx
   · cases hx; rw [h]; exact hd _ d hg
   · cases hx
 · exact hd j x hx
def cpD (d : Dr) (runs : Int) (g : Int) : Nat → List Dr
 | 0 => []
 | n + 1 => cpD d runs g n ++ [{ d with id := g + n + 1, runs := runs, busy := 0 }]
theorem zm5 (d : Dr) (runs g : Int) : ∀ n, (cpD d runs g n).length = n
 | 0 => rfl
 | n + 1 => by simp only [cpD, zzx, zm5 d runs g n, zzr, z1a]
theorem zq1 {d : Dr} {runs : Int} (hd : DNum ds) (hg : g = (ds.length : Int)) : ∀ n, DNum (ds ++ cpD d runs g n)
 | 0 => by simp only [cpD, zz7]; exact hd
 | n + 1 => by
   simp only [cpD]
   rw [← zzj]
   exact (zq1 hd hg n).app (by simp only [zzx, zm5]; omega)
def zyh (ds : List Dr) (g : Int) (d : Dr) (copies runs : Int) : Int := if inJ copies 1 10 = false ∨ inJ runs 1 1000 = false then 1 else if d.runs ≠ -1 then 9 else if ¬ (((ds.length : Int) + copies ≤ 64) ∧ g + 1 ≤ 1099511627776 - copies) then 4 else 0
theorem copies_D {copies runs : Int} (hd : DNum ds) (hgl : g = (ds.length : Int)) (hl : ds.length ≤ 100000) (ho : ∀ d ∈ ds, isD d = true) (k1 : (id < 1 ∨ (ds.length : Int) < id) → Q (.t [.l 1 [], .i 3]) [drB ds g])
 (k2 : ∀ (i : Nat) (d : Dr), ds[i]? = some d → id = (i : Int) + 1 → zyh ds g d copies runs ≠ 0 → Q (.t [.l 1 [], .i (zyh ds g d copies runs)]) [drB ds g])
 (k3 : ∀ (i : Nat) (d : Dr) (l : List (List U)), ds[i]? = some d → id = (i : Int) + 1 → zyh ds g d copies runs = 0 → Q (.t [.l 1 l, .i 0]) [drB (ds ++ cpD d runs g copies.toNat) (g + copies)]) : PRun Tryz.prog 207 [drB ds g] [.r 0 0, .i id, .i copies, .i runs] Q := by
 refine S207 (zx7 hd hl (fun h => ?_) fun i d hg hid => ?_)
 · rw [zdb]
   exact cNe (fun _ => k1 h) fun h => absurd h (by decide)
 rw [zdb]
 have k2 := k2 i d hg hid
 have k3 := fun l => k3 i d l hg hid
 have hdd := zf2 (ho d (zzf hg))
 unfold zyh at k2 k3
 refine cNe (fun h => absurd rfl h) fun _ => zng (fun h => ?_) fun h1 => zng (fun h => ?_) fun h2 => ?_
 · rw [if_pos (.inl h)] at k2; exact k2 (by decide)
 · rw [if_pos (.inr h)] at k2; exact k2 (by decide)
 have c1 := inJ_iff.1 h1
 have c2 := inJ_iff.1 h2
 rw [if_neg (by rw [h1, h2]; decide)] at k2 k3
 refine cNe (fun h => ?_) fun h3 => ?_
 · rw [if_pos h] at k2; exact k2 (by decide)
 rw [if_neg (by omega)] at k2 k3
 rw [zzc, w64 (x := (ds.length : Int) + copies) (by omega) (by omega), w64 (x := g + 1) (by omega) (by omega), w64 (x := 1099511627776 - copies) (by omega) (by omega)]
 refine cIf (fun h4 => ?_) fun h => ?_
 · cases h5 : decide (g + 1 ≤ 1099511627776 - copies) with
   | false =>
     rw [decide_eq_false_iff_not] at h5
     rw [if_pos (by omega)] at k2
     exact k2 (by decide)
   | true =>
     rw [decide_eq_true_eq] at h5
     rw [if_neg (by omega)] at k3
     rw [z0p, cond_false]
     refine ⟨fun o x r n => ∃ k : Nat, x = (k : Int) ∧ (k : Int) ≤ copies ∧ o.length = k ∧ r = (ds ++ cpD d runs g k).map eD ∧ n = g + k, fun _ x _ _ => (copies - x).toNat, ⟨0, rfl, by omega, rfl, by simp only [cpD, zz7], by omega⟩, ?_⟩
     rintro o _ _ _ ⟨k, rfl, hk, ho2, rfl, rfl⟩
     refine cIf (fun hlt => ?_) fun hge => ?_
     · have hlen : (ds ++ cpD d runs g k).length = ds.length + k := by rw [zzx, zm5]
       refine add_D (d := ⟨d.id, d.own, d.div, d.place, d.blue, d.me, d.te, runs, 0⟩) (zq1 hd hgl k) (by rw [hlen]; omega) (by rw [hlen]; omega) (fun h => ?_) (fun h => ?_) fun _ _ _ => ?_
       · exfalso
         rcases h with h | h
         · have : isD ⟨d.id, d.own, d.div, d.place, d.blue, d.me, d.te, runs, 0⟩ = true := by
            unfold isD
            simp only [zy9, inJ_iff]
            omega
           rw [h] at this; cases this
         · exact h rfl
       · exfalso
         unfold zv6 at h
         rw [hlen] at h
         omega
       · show post [.I, .I] [.c [.l 13, .i .i64]] _ (.t [.i _, .i 0]) [.c [.l 13 _, .i _]]
         show zak _ _ ∧ _
         have ek : zy5 .i64 ((k : Int) + 1) = ((k + 1 : Nat) : Int) := by rw [w64 (by omega) (by omega)]; omega
         rw [ek]
         refine ⟨by unfold zak; simp; omega, ⟨k + 1, rfl, by omega, by simp [ho2], ?_, by omega⟩, by dsimp only; omega⟩
         simp only [cpD]
         rw [← zzj]
     · have e1 : copies.toNat = k := by omega
       have e2 : g + copies = g + k := by omega
       rw [e1, e2] at k3
       exact k3 o rfl
 · rw [if_pos (by omega)] at k2
   exact k2 (by decide)
end
end
section
open Go.Sort Go.Shelf
theorem PRun.run0 {g : FuncId} {args : List V} (hh : PRun P g [] args Q) (F : RpL (fun _ => none) [] vs args) (h : zaf) :
 Run P g vs h fun v h' => Keep h h' ∧ ∃ D ρ x m', Rp D ρ v x ∧ Q x m' := by
 have hS : St (fun _ => none) [(zzt h.size).pmap (fun i hi => (i, h[i]'(by simpa using hi))) (fun i hi => z1o.1 hi)] h := by
  refine ⟨?_, fun p hp => ?_, fun b o hb => by cases hb⟩
  · simp only [ids, zzp, z2t, zz7, List.map_pmap]
    have : (List.pmap (fun i (hi : i < h.size) => i) (zzt h.size) (fun i hi => z1o.1 hi)) = zzt h.size := by
     rw [List.pmap_eq_map, List.map_id']
    rw [this]; exact List.nodup_range
  · simp only [zzp, z2t, zz7, List.mem_pmap] at hp
    obtain ⟨i, hi, rfl⟩ := hp
    have := z1o.1 hi
    simp [this]
 refine (hh (fun _ => none) [] [] _ h vs ⟨rfl, rfl, fun i L ab ch h => by simp at h, by simpa using hS⟩ F).mono ?_
 rintro v h' ⟨D', ρ', chs', x, m', -, M, hv, hq⟩
 have key : ∀ i (hi : i < h.size), h'[i]? = some h[i] := fun i hi => by
  refine M.st.own (i, h[i]) ?_
  simp only [zz4, zzh, zzp, z2t, zz7, List.mem_pmap]
  exact .inr ⟨i, z1o.2 hi, rfl⟩
 refine ⟨⟨?_, fun b hb _ => by rw [key b hb]; simp [hb]⟩, D', _, x, m', hv, hq⟩
 rcases Nat.eq_zero_or_pos h.size with h0 | h0
 · omega
 · have := zby (key (h.size - 1) (by omega))
   omega
theorem zp3 : ∀ (l : List Int), RpC (fun _ => none) [] (l.map (Value.int .i64)) (l.map V.i)
 | [] => .nil
 | x :: l => .cons (.u (.int _ _)) (by simp) (zp3 l)
theorem sortP {α : Type} [Inhabited α] {ρ0 : Go.Shelf.Ren} (L : SlLaysF0.n6 P ρ0) {f g : FuncId} (hf : ρ0.f 6 = f) (hc : zbj P f) (k : Nat) (aE : ∀ w, (isAgg (ρ0.t 24)).run P w = .ok true w) (zE : ∀ w, (Go.sizeOf (ρ0.t 24)).run P w = .ok k w)
 (en : α → List Int) (hk : ∀ x, (en x).length = k) (cf : α → α → Int) (hO : SWO (ltOf cf)) (hg : zbj P g) (hrun : ∀ x y, PRun P g [] [.a ((en x).map V.i), .a ((en y).map V.i)] fun v _ => v = .i (cf x y))
 {rows : List α} (hl : rows.length ≤ 1000000) (kk : ∀ r : List α, r.Perm rows → r.Pairwise (fun x y => cf y x < 0 → False) → Q (.t []) [.w E k (r.map fun x => (en x).map U.n)]) :
 PRun P f [.w E k (rows.map fun x => (en x).map U.n)] [.w 0, .f g [] []] Q := by
 intro D ρ chs C h vs M F
 cases F with
 | cons a1 F =>
 cases F with
 | cons a2 F =>
 cases F
 obtain ⟨L0, hL0, rfl⟩ := a1.w_inv
 obtain ⟨xs, ys, rfl, b1, b2⟩ := a2.f_inv
 cases b1; cases b2
 obtain ⟨L1, ch, g1, g2, g3⟩ := M.get (b := 0) (by simp [mg])
 rw [hL0] at g1; cases g1
 have hch : chs = [ch] := by
  have := M.lch
  match chs, this, g2 with
  | [c], _, g2 => simp at g2; rw [g2]
 subst hch
 have hρ : ρ = [L0] := by
  have := M.len
  match ρ, this, hL0 with
  | [c], _, g2 => simp at g2; rw [g2]
 subst hρ
 simp only [mg] at g3
 have S : St D (ch :: C) h := M.st
 cases g3 with
 | w own hn =>
   rw [zzc] at hn
   generalize hrr : rows.map (fun x => (en x).map U.n) = rr at own
   obtain ⟨Lb, La, Ln, Lc⟩ := L0
   simp only at own hn
   subst hn
   cases own with
   | nil =>
     have h0 : rows = [] := by simpa using hrr
     subst h0
     refine (znz L hf hc).mono ?_
     rintro v h' ⟨rfl, rfl⟩
     exact ⟨D, [], [[]], .t [], _, .refl D, M, .t .nil, kk [] (.refl _) .nil⟩
   | row b Lc arr rr v h1 h2 h3 h4 h5 =>
     have hb := S.get (zz8 _)
     refine (sortRun L hf hc k aE zE (fun x => (en x).map (Value.int .i64)) (fun x => by simp [hk]) (fun x v hv => by simp at hv; obtain ⟨n, -, rfl⟩ := hv; rfl) cf hO g hg (fun x y h => ?_) (d := rows) (cap := Lc) hb (fun i x hx j v' hv' => ?_) (by omega) (by rw [← hrr] at h2; simpa using h2.1)).mono ?_
     · refine ((hrun x y).run0 (vs := [.agg ((en x).map (Value.int .i64)).toArray, .agg ((en y).map (Value.int .i64)).toArray]) (.cons (.a (zp3 _)) (.cons (.a (zp3 _)) .nil)) h).mono ?_
       rintro v h' ⟨hkp, D', ρ', x', m', hv, rfl⟩
       refine ⟨?_, hkp⟩
       cases hv with | u hv => cases hv; rfl
     · have hr : rr[i]? = some ((en x).map U.n) := by rw [← hrr, zzg, hx]; rfl
       rw [zzg] at hv'
       obtain ⟨n, hn, rfl⟩ := z0q.1 hv'
       have hu : ((en x).map U.n)[j]? = some (.n n) := by rw [zzg, hn]; rfl
       have := h5 i j _ _ hr hu
       rw [h4 i j _ _ hr hu, Rd.int_iff.1 this]
     · rintro w h' ⟨rfl, kb, r, hp, hs, hsl, l', hl', hsz'⟩
       have hlen := hp.length_eq
       have own' : Own D E k (some ⟨b, 0, none⟩) Lc (r.map fun x => (en x).map U.n) [(b, .cells l' E (0, 0))] := by
        refine .row b Lc l' _ (fun i j => match r[i]? with | some x => .int .i64 ((en x).getD j 0) | none => undef) (by rw [hsz']; exact h1) (by rw [← hrr] at h2; simp at h2 ⊢; omega) (fun q hq => by obtain ⟨x, -, rfl⟩ := zz6.1 hq; simp [hk]) (fun i j q u hi hj => ?_) (fun i j q u hi hj => ?_)
        · rw [zzg] at hi
          obtain ⟨x, hx, rfl⟩ := z0q.1 hi
          rw [zzg] at hj
          obtain ⟨n, hn, rfl⟩ := z0q.1 hj
          obtain ⟨b', o', e, hcell⟩ := hsl.2.2 i x hx
          cases e
          have := hcell j (.int .i64 n) (by rw [zzg, hn]; rfl)
          rw [za0 hl', zzo] at this
          rw [this]
          simp only [hx, z1i, hn, z0j]
        · rw [zzg] at hi
          obtain ⟨x, hx, rfl⟩ := z0q.1 hi
          rw [zzg] at hj
          obtain ⟨n, hn, rfl⟩ := z0q.1 hj
          simp only [hx, z1i, hn, z0j]
          exact .int _ _
       have S' : St D ([(b, .cells l' E (0, 0))] :: C) h' := S.upd (by simpa using kb) (by simpa using hl') (by simp) (by simp)
       refine ⟨D, [], [[(b, .cells l' E (0, 0))]], .t [], _, .refl D, ⟨rfl, rfl, fun i L ab ch h1 h2 h3 => ?_, S'⟩, .t .nil, kk r hp hs⟩
       cases i with
       | zero =>
         simp at h1 h2 h3
         subst h1 h2 h3
         exact .w own' (by simp [hlen])
       | succ i => simp at h2
end
def insT (t : Tm) : List Tm → List Tm
 | [] => [t]
 | x :: l => if leT t x then t :: x :: l else x :: insT t l
def zfm : List Tm → List Tm
 | [] => []
 | t :: l => insT t (zfm l)
theorem zi1 (t : Tm) : ∀ l, (insT t l).Perm (t :: l)
 | [] => .refl _
 | x :: l => by
   unfold insT
   split
   · exact .refl _
   · exact ((zi1 t l).cons x).trans (.swap t x l)
theorem zap : ∀ l, (zfm l).Perm l
 | [] => .refl _
 | t :: l => (zi1 t _).trans ((zap l).cons t)
theorem zso {t : Tm} : ∀ {l : List Tm}, l.Pairwise leT → (insT t l).Pairwise leT
 | [], _ => by simp [insT]
 | x :: l, h => by
   have h' := z0h.1 h
   unfold insT
   split
   · rename_i hl
     refine z0h.2 ⟨fun y hy => ?_, h⟩
     rcases zze.1 hy with rfl | hy
     · exact hl
     · exact hl.trans (h'.1 y hy)
   · rename_i hl
     refine z0h.2 ⟨fun y hy => ?_, zso h'.2⟩
     rcases zze.1 ((zi1 t l).mem_iff.1 hy) with rfl | hy
     · exact leT.total hl
     · exact h'.1 y hy
theorem zb8 : ∀ l, (zfm l).Pairwise leT
 | [] => .nil
 | t :: l => zso (zb8 l)
abbrev DifT (l : List Tm) : Prop := l.Pairwise fun a b => a.2.1 ≠ b.2.1
theorem DifT.eq {l : List Tm} (h : DifT l) {a b : Tm} (ha : a ∈ l) (hb : b ∈ l) (e : a.2.1 = b.2.1) : a = b := by
 induction l with
 | nil => simp at ha
 | cons x l ih =>
   obtain ⟨h1, h2⟩ := z0h.1 h
   rcases zze.1 ha with ea | ha2 <;> rcases zze.1 hb with eb | hb2
   · rw [ea, eb]
   · rw [ea] at e; exact absurd e (h1 b hb2)
   · rw [eb] at e; exact absurd e.symm (h1 a ha2)
   · exact ih h2 ha2 hb2
theorem DifT.perm {l m : List Tm} (p : l.Perm m) (h : DifT l) : DifT m := p.pairwise h fun h e => h e.symm
theorem zh8 {l m : List Tm} (p : l.Perm m) (h1 : l.Pairwise leT) (h2 : m.Pairwise leT) (hd : DifT l) : l = m :=
 List.Perm.eq_of_pairwise (fun a b ha hb x y => hd.eq ha (p.mem_iff.2 hb) (x.antisymm y).2) h1 h2 p
theorem zvl {l m : List Tm} (p : l.Perm m) (hd : DifT l) : zfm l = zfm m :=
 zh8 (((zap l).trans p).trans (zap m).symm) (zb8 l) (zb8 m) (DifT.perm (zap l).symm hd)
theorem srtT_id {l : List Tm} (h : l.Pairwise leT) (hd : DifT l) : zfm l = l := zh8 (zap l) (zb8 l) h (DifT.perm (zap l).symm hd)
theorem zpz {P : Tm → Bool} {l : List Tm} (hd : DifT l) : zfm (l.filter P) = (zfm l).filter P :=
 zh8 ((zap _).trans ((zap l).symm.filter P)) (zb8 _) ((zb8 l).sublist List.filter_sublist) (DifT.perm (zap _).symm (hd.sublist List.filter_sublist))
section
set_option maxRecDepth 100000
theorem mixTs : Tryz.prog.follows .mixedOrders = true := by kernel_rfl
theorem S216 {a : List (List U)} {g : List (MK × List U)} {c e : Int} (hh : ∀ j : Prop, ((mO (zbs g (.a [d, e])) (fun l => (dI .i64 (ug l 0) (fun i => 0 ≤ i ∧ i < (zy6 a : Int) ∧ (elL a i (fun h => dI .i64 (ug h 0) (fun s => dI .i64 (ug h 1) (fun t => dI .i64 (ug h 2) (fun u => dI .i64 (ug h 3) (fun v => Q (.i 9) [.c [.w 1, .m 2], .w 43 4 a, .p (.a 2) 1 false g]))))))) : Prop)) (bif decide ((zy6 a : Int) ≥ 128) then Q (.i 4) [.c [.w 1, .m 2], .w 43 4 a, .p (.a 2) 1 false g] else zak a [[.n c, .n d, .n e, .n f]] ∧ (Q (.i 0) [.c [.w 3, .m 2], .x, .p (.a 2) 1 false (za3 g (.a [d, e]) [.n (zy6 a : Int)]), .w 43 4 (a ++ [[.n c, .n d, .n e, .n f]])]))) → j) → ∀ b : Bool → Prop, (∀ k : Bool, ((bif k then Q (.i 1) [.c [.w 1, .m 2], .w 43 4 a, .p (.a 2) 1 false g] else j)) → b k) → (bif decide (c < 0) then b true else (bif decide (c > 1099511627776) then b true else (bif decide (e < 1) then b true else (bif decide (e > 1099511627776) then b true else (bif d == 1 then (bif f == 4 then (bif (zy6 a : Int) == 0 then b (decide (c < 0)) else 0 ≤ zy5 .i64 ((zy6 a : Int) - 1) ∧ zy5 .i64 ((zy6 a : Int) - 1) < (zy6 a : Int) ∧ (elL a (zy5 .i64 ((zy6 a : Int) - 1)) (fun m => dI .i64 (ug m 0) (fun n => b (decide (c < n)))))) else (bif !(f == 6) then b true else (bif (zy6 a : Int) == 0 then b (decide (c < 0)) else 0 ≤ zy5 .i64 ((zy6 a : Int) - 1) ∧ zy5 .i64 ((zy6 a : Int) - 1) < (zy6 a : Int) ∧ (elL a (zy5 .i64 ((zy6 a : Int) - 1)) (fun o => dI .i64 (ug o 0) (fun p => b (decide (c < p)))))))) else (bif d == 2 then (bif decide (f ≥ 3) then (bif !(decide (f ≤ 7)) then b true else (bif (zy6 a : Int) == 0 then b (decide (c < 0)) else 0 ≤ zy5 .i64 ((zy6 a : Int) - 1) ∧ zy5 .i64 ((zy6 a : Int) - 1) < (zy6 a : Int) ∧ (elL a (zy5 .i64 ((zy6 a : Int) - 1)) (fun q => dI .i64 (ug q 0) (fun r => b (decide (c < r))))))) else b true) else b true))))))) : PRun Tryz.prog 216 [.c [.w 1, .m 2], .w 43 4 a, .p (.a 2) 1 false g] [.r 0 0, q16 c d e f] Q :=
 zad mixTs Tryz.func216 (by kernel_rfl) (H := ⟨[], [((216, 2, 4), ⟨[(20, .B)], []⟩), ((216, 3, 4), ⟨[], []⟩)], [11, 305, 306], [], [], false, 64, KN.no, false, SP.no⟩) (n := 3) (by kernel_rfl) hh
theorem S216e {c : Int} (hh : bif decide (a < 0) then Q (.i 1) [.c [.nl 4, .nm]] else (bif decide (a > 1099511627776) then Q (.i 1) [.c [.nl 4, .nm]] else (bif decide (b < 1) then Q (.i 1) [.c [.nl 4, .nm]] else (bif decide (b > 1099511627776) then Q (.i 1) [.c [.nl 4, .nm]] else (bif c == 1 then (bif d == 4 then (bif decide (a < 0) then Q (.i 1) [.c [.nl 4, .nm]] else zak [] [[.n a, .n c, .n b, .n d]] ∧ (Q (.i 0) [.c [.w 1, .m 2], .w 43 4 [[.n a, .n c, .n b, .n d]], .p (.a 2) 1 false [((.a [c, b]), [.n 0])]])) else (bif !(d == 6) then Q (.i 1) [.c [.nl 4, .nm]] else (bif decide (a < 0) then Q (.i 1) [.c [.nl 4, .nm]] else zak [] [[.n a, .n c, .n b, .n d]] ∧ (Q (.i 0) [.c [.w 1, .m 2], .w 43 4 [[.n a, .n c, .n b, .n d]], .p (.a 2) 1 false [((.a [c, b]), [.n 0])]])))) else (bif c == 2 then (bif decide (d ≥ 3) then (bif !(decide (d ≤ 7)) then Q (.i 1) [.c [.nl 4, .nm]] else (bif decide (a < 0) then Q (.i 1) [.c [.nl 4, .nm]] else zak [] [[.n a, .n c, .n b, .n d]] ∧ (Q (.i 0) [.c [.w 1, .m 2], .w 43 4 [[.n a, .n c, .n b, .n d]], .p (.a 2) 1 false [((.a [c, b]), [.n 0])]]))) else Q (.i 1) [.c [.nl 4, .nm]]) else Q (.i 1) [.c [.nl 4, .nm]])))))) : PRun Tryz.prog 216 [.c [.nl 4, .nm]] [.r 0 0, q16 a c b d] Q :=
 zad mixTs Tryz.func216 (by kernel_rfl) (H := ⟨[], [], [11, 305, 306], [], [], false, 64, KN.no, false, SP.no⟩) (n := 3) (by kernel_rfl) hh
end
section
variable {Q : V → Mem → Prop}
abbrev Mk := Int × Int × Int × Int
abbrev rM (x : Mk) : List U := [.n x.1, .n x.2.1, .n x.2.2.1, .n x.2.2.2]
abbrev mV (x : Mk) : V := .a [.i x.1, .i x.2.1, .i x.2.2.1, .i x.2.2.2]
def isMk (x : Mk) : Prop := 0 ≤ x.1 ∧ x.1 ≤ 1099511627776 ∧ 1 ≤ x.2.2.1 ∧ x.2.2.1 ≤ 1099511627776 ∧ (x.2.1 = 1 ∧ (x.2.2.2 = 4 ∨ x.2.2.2 = 6) ∨ x.2.1 = 2 ∧ 3 ≤ x.2.2.2 ∧ x.2.2.2 ≤ 7)
instance (x : Mk) : Decidable (isMk x) := inferInstanceAs (Decidable (_ ∧ _))
def zcl (L : List Mk) : Int := match L.getLast? with | some x => x.1 | none => 0
def ofM (L : List Mk) (w i : Int) : Option Mk := L.find? fun x => x.2.1 == w && x.2.2.1 == i
def zf9 (L : List Mk) (x : Mk) : Int := if isMk x ∧ zcl L ≤ x.1 then (if (ofM L x.2.1 x.2.2.1).isSome then 9 else if 128 ≤ L.length then 4 else 0) else 1
def znd (L : List Mk) (x : Mk) : List Mk := if zf9 L x = 0 then L ++ [x] else L
structure LInv (L : List Mk) (m : List (MK × List U)) : Prop where
 pos : ∀ (i : Nat) (x : Mk), L[i]? = some x → zbs m (.a [x.2.1, x.2.2.1]) = some [.n (i : Int)]
 only : ∀ w i r, zbs m (.a [w, i]) = some r → ∃ x ∈ L, x.2.1 = w ∧ x.2.2.1 = i
def zix (L : List Mk) : Mem → Prop := fun M => (L = [] ∧ M = [.c [.nl 4, .nm]]) ∨ (L.length ≤ 128 ∧ ∃ m, LInv L m ∧ M = [.c [.w 1, .m 2], .w 43 4 (L.map rM), .p (.a 2) 1 false m])
theorem LInv.of {L : List Mk} (h : LInv L m) (w i : Int) : (ofM L w i = none ∧ zbs m (.a [w, i]) = none) ∨ ∃ (k : Nat) (x : Mk), ofM L w i = some x ∧ L[k]? = some x ∧ zbs m (.a [w, i]) = some [.n (k : Int)] := by
 cases hg : zbs m (.a [w, i]) with
 | none =>
   refine .inl ⟨z2p.2 fun x hx => ?_, rfl⟩
   intro hc
   simp only [zy9, beq_iff_eq] at hc
   obtain ⟨k, hk⟩ := z0e.1 hx
   have := h.pos k x hk
   rw [hc.1, hc.2, hg] at this
   cases this
 | some r =>
   obtain ⟨x, hx, h1, h2⟩ := h.only w i r hg
   have hs : (ofM L w i).isSome := List.find?_isSome.2 ⟨x, hx, by simp [h1, h2]⟩
   obtain ⟨y, hy⟩ := z2x.1 hs
   have hy1 := z21 hy
   simp only [zy9, beq_iff_eq] at hy1
   obtain ⟨k, hk⟩ := z0e.1 (z20 hy)
   have := h.pos k y hk
   rw [hy1.1, hy1.2, hg] at this
   exact .inr ⟨k, y, hy, hk, this⟩
theorem LInv.add {L : List Mk} (h : LInv L m) {x : Mk} (hx : ofM L x.2.1 x.2.2.1 = none) : LInv (L ++ [x]) (za3 m (.a [x.2.1, x.2.2.1]) [.n (L.length : Int)]) where
 pos i y hy := by
  rw [za8]
  by_cases hi : i < L.length
  · rw [zzi hi] at hy
    rw [if_neg fun e => ?_]
    · exact h.pos i y hy
    · injection e with e
      have := z2p.1 hx y (zzf hy)
      simp only [List.cons.injEq, and_true] at e
      simp [e.1, e.2] at this
  · have hl := (zza.1 hy).1
    simp at hl
    have : i = L.length := by omega
    subst this
    simp at hy
    subst hy
    rw [if_pos rfl]
 only w i r hr := by
  rw [za8] at hr
  by_cases e : (MK.a [x.2.1, x.2.2.1]) = .a [w, i]
  · injection e with e
    simp only [List.cons.injEq, and_true] at e
    exact ⟨x, by simp, e.1, e.2⟩
  · rw [if_neg e] at hr
    obtain ⟨y, hy, h1⟩ := h.only w i r hr
    exact ⟨y, by simp [hy], h1⟩
end
section
variable {Q : V → Mem → Prop}
theorem addM_S {L : List Mk} {x : Mk} (K : Q (.i (zf9 L x)) [.o (Ob.of (zix (znd L x)))]) : PRun Tryz.prog 216 [.o (Ob.of (zix L))] [.r 0 0, mV x] Q := by
 refine PRun.pack (args := [mV x]) rfl ?_
 have k1 : ¬ (isMk x ∧ zcl L ≤ x.1) → Q (.i 1) [.o (Ob.of (zix L))] := fun h => by
  have e : zf9 L x = 1 := if_neg h
  have e2 : znd L x = L := if_neg (by rw [e]; decide)
  rw [e, e2] at K; exact K
 rintro M (⟨rfl, rfl⟩ | ⟨hl, m, hm, rfl⟩)
 · have bad : ¬ (isMk x ∧ zcl [] ≤ x.1) → (zae (V.i 1) = [] ∧ ∃ (m2 : Mem) (S' : Mem → Prop), Nrm [.c [.nl 4, .nm]] m2 ∧ S' m2 ∧ Q (.i 1) [.o (Ob.of S')]) := fun h =>
    ⟨rfl, _, zix [], .refl _, .inl ⟨rfl, rfl⟩, k1 h⟩
   have tail : isMk x → (bif decide (x.1 < 0) then (zae (V.i 1) = [] ∧ ∃ (m2 : Mem) (S' : Mem → Prop), Nrm [.c [.nl 4, .nm]] m2 ∧ S' m2 ∧ Q (.i 1) [.o (Ob.of S')]) else
    zak [] [rM x] ∧ (zae (V.i 0) = [] ∧ ∃ (m2 : Mem) (S' : Mem → Prop), Nrm [.c [.w 1, .m 2], .w 43 4 [rM x], .p (.a 2) 1 false [((.a [x.2.1, x.2.2.1]), [.n 0])]] m2 ∧ S' m2 ∧ Q (.i 0) [.o (Ob.of S')])) := fun h => by
    have h0 : zcl [] ≤ x.1 := h.1
    refine cIf (fun h2 => absurd h.1 (by omega)) fun h2 => ⟨by unfold zak; simp, rfl, _, zix [x], .refl _, .inr ⟨by simp, _, LInv.add (L := []) (m := []) ⟨fun i y hy => by simp at hy, fun w i r hr => by simp [zbs] at hr⟩ rfl, rfl⟩, ?_⟩
    have e : zf9 [] x = 0 := by unfold zf9; rw [if_pos ⟨h, h0⟩]; rfl
    have e2 : znd [] x = [x] := if_pos e
    rw [e, e2] at K; exact K
   refine S216e ?_
   unfold isMk at bad tail
   refine cIf (fun h => bad (by omega)) fun h1 => cIf (fun h => bad (by omega)) fun h2 => cIf (fun h => bad (by omega)) fun h3 => cIf (fun h => bad (by omega)) fun h4 => cEq (fun h5 => cEq (fun h6 => tail (by omega)) fun h6 => zfn (cEq (fun h7 => tail (by omega)) fun h7 => bad (by omega))) fun h5 =>
    cEq (fun h6 => cIf (fun h7 => zfn (cIf (fun h8 => tail (by omega)) fun h8 => bad (by omega))) fun h7 => bad (by omega)) fun h6 => bad (by omega)
 · have fin : ∀ {e : Int} {L' : List Mk} {m2 : Mem}, Nrm m2 m2 → e = zf9 L x → L' = znd L x → zix L' m2 → (zae (V.i e) = [] ∧ ∃ (m3 : Mem) (S' : Mem → Prop), Nrm m2 m3 ∧ S' m3 ∧ Q (.i e) [.o (Ob.of S')]) := fun h1 h2 h3 h4 =>
    ⟨rfl, _, _, h1, h4, by rw [h2, h3]; exact K⟩
   have same : zix L [.c [.w 1, .m 2], .w 43 4 (L.map rM), .p (.a 2) 1 false m] := .inr ⟨hl, m, hm, rfl⟩
   have eN : zf9 L x ≠ 0 → znd L x = L := fun h => if_neg h
   refine S216 ?_
   intro k1' hk1 k2 hk2
   have bad : ¬ (isMk x ∧ zcl L ≤ x.1) → k2 true := fun h => hk2 true ⟨rfl, _, zix L, .refl _, same, k1 h⟩
   have zua : (isMk x ∧ zcl L ≤ x.1) → k2 false := fun h => hk2 false (hk1 (by
    rcases hm.of x.2.1 x.2.2.1 with ⟨q1, q2⟩ | ⟨k, y, q1, hk, q2⟩
    · rw [q2]
      simp only [mO]
      refine cIf (fun h8 => ?_) fun h8 => ?_
      · rw [zzc] at h8
        have e : zf9 L x = 4 := by unfold zf9; rw [if_pos h, q1, if_neg (by simp), if_pos (by omega)]
        exact fin (.refl _) e.symm (eN (by rw [e]; decide)).symm same
      · rw [zzc] at h8
        have e : zf9 L x = 0 := by unfold zf9; rw [if_pos h, q1, if_neg (by simp), if_neg (by omega)]
        have e2 : znd L x = L ++ [x] := if_pos e
        refine ⟨by unfold zak; simp; omega, rfl, _, zix (L ++ [x]), Nrm.four (l := [.w 3, .m 2]) (by simp [zbb, zag, zae]) (by simp [zbb]) (by simp [zbb]), .inr ⟨by simp; omega, _, hm.add q1, ?_⟩, by rw [e, e2] at K; exact K⟩
        simp [zpj, zd1, zcm, f4]
    · rw [q2]
      have hkl := (zza.1 hk).1
      simp only [mO, ug0, zbo]
      refine ⟨by omega, by rw [zzc]; omega, ?_⟩
      rw [zah (r := rM y) (by omega) (by simp [hk])]
      simp only [rM, ug0, ugs, zbo]
      have e : zf9 L x = 9 := by unfold zf9; rw [if_pos h, q1]; rfl
      exact fin (.refl _) e.symm (eN (by rw [e]; decide)).symm same))
   have tail : isMk x → (bif (zy6 (L.map rM) : Int) == 0 then k2 (decide (x.1 < 0)) else 0 ≤ zy5 .i64 ((zy6 (L.map rM) : Int) - 1) ∧ zy5 .i64 ((zy6 (L.map rM) : Int) - 1) < (zy6 (L.map rM) : Int) ∧ (elL (L.map rM) (zy5 .i64 ((zy6 (L.map rM) : Int) - 1)) (fun r3 => dI .i64 (ug r3 0) (fun x6 => k2 (decide (x.1 < x6)))))) := fun h => by
    have pick : k2 (decide (x.1 < zcl L)) := by
     by_cases h2 : x.1 < zcl L
     · rw [decide_eq_true h2]; exact bad (by omega)
     · rw [decide_eq_false h2]; exact zua ⟨h, by omega⟩
    rw [zzc]
    refine cEq (fun h0 => ?_) fun h0 => ?_
    · have : L = [] := List.length_eq_zero_iff.1 (by omega)
      subst this; exact pick
    · obtain ⟨n, hn⟩ : ∃ n, L.length = n + 1 := ⟨L.length - 1, by omega⟩
      have ew : zy5 .i64 ((L.length : Int) - 1) = (n : Nat) := by rw [hn, w64 (by omega) (by omega)]; omega
      obtain ⟨y, hy⟩ : ∃ y, L[n]? = some y := ⟨L[n]'(by omega), zzb (by omega)⟩
      have el : zcl L = y.1 := by unfold zcl; rw [List.getLast?_eq_getElem?, hn, Nat.add_sub_cancel, hy]
      rw [ew]
      refine ⟨by omega, by omega, ?_⟩
      rw [zah (r := rM y) (by omega) (by simp [hy])]
      simp only [rM, ug0, zbo]
      rw [el] at pick; exact pick
   unfold isMk at bad tail
   refine cIf (fun h => bad (by omega)) fun h1 => cIf (fun h => bad (by omega)) fun h2 => cIf (fun h => bad (by omega)) fun h3 => cIf (fun h => bad (by omega)) fun h4 => cEq (fun h5 => cEq (fun h6 => tail (by omega)) fun h6 => zfn (cEq (fun h7 => tail (by omega)) fun h7 => bad (by omega))) fun h5 =>
    cEq (fun h6 => cIf (fun h7 => zfn (cIf (fun h8 => tail (by omega)) fun h8 => bad (by omega))) fun h7 => bad (by omega)) fun h6 => bad (by omega)
end
section
set_option maxRecDepth 100000
theorem mixTh1 : Tryz.prog.follows .mixedOrders = true := by kernel_rfl
theorem S93 {s : List (List U)} (hh : bif List.isEmpty s then ((Q (.l 2 []) [] : Prop) ∧ (zak [] s ∧ (match s with | _ :: _ => (Q (.l 2 ([] ++ s)) []) | [] => (Q (.c 2 []) []) : Prop) : Prop)) else (zak [] s ∧ (match s with | _ :: _ => (Q (.l 2 ([] ++ s)) []) | [] => (Q (.c 2 []) []) : Prop) : Prop)) : PRun Tryz.prog 93 [] [.l 2 s] Q :=
 zad mixTh1 Tryz.func93 (by kernel_rfl) (H := ⟨[], [], [], [], [], false, 64, KN.no, false, SP.no⟩) (n := 2) (by kernel_rfl) hh
end
section
set_option maxRecDepth 100000
theorem zg8 : Tryz.prog.follows .mixedOrders = true := by kernel_rfl
theorem S200 {k l m o ξ : Int} {g i n p s : List (List U)} {q : List Int} {e r u : Ob} (hh : 0 ≤ zy5 .i64 (b - 1) ∧ zy5 .i64 (b - 1) < (zy6 c : Int) ∧ (elL c (zy5 .i64 (b - 1)) (fun a => dI .i64 (ug a 0) (fun v => dI .i64 (ug a 1) (fun w => dI .i64 (ug a 2) (fun x => dI .i64 (ug a 3) (fun y => dI .i64 (ug a 4) (fun α => dI .i64 (ug a 5) (fun β => dI .i64 (ug a 6) (fun γ => dI .i64 (ug a 7) (fun δ => dI .i64 (ug a 8) (fun ε => dI .i64 (ug a 9) (fun ζ => dI .i64 (ug a 10) (fun η => dL 2 (ug a 11) (fun θ => dI .i64 (ug a 12) (fun ι => dI .i64 (ug a 13) (fun κ => dI .i64 (ug a 14) (fun μ => dI .i64 (ug a 15) (fun ν => PRun Tryz.prog 294 [] [(q17 v w x y α β γ δ ε ζ η θ ι κ μ ν), .i ξ] (post q2 [] (fun ο π ρ σ τ υ φ χ ψ ω a0 a1 a2 a3 d a4 a5 => (bif a5 == 0 then PRun Tryz.prog 295 [.o e] [.r 0 0, .i d, .i (zy5 .i64 (2 * b))] (post q10 [.A] (fun a7 a8 a6 => (Q (.t []) (q14 f g h i j k l m n o p q a6 r s t u (zzm c (zy8 (zy5 .i64 (b - 1))) (q27 ο π ρ σ τ υ φ χ ψ ω a0 a1 a2 a3 d a4))) : Prop))) else Q (.t []) (q14 f g h i j k l m n o p q e r s t u c) : Prop)))))))))))))))))))))) : PRun Tryz.prog 200 (q14 f g h i j k l m n o p q e r s t u c) [.r 0 0, .i b, .i ξ] Q :=
 zad zg8 Tryz.func200 (by kernel_rfl) (H := ⟨[], [], [34], [], [], false, 64, KN.no, false, SP.no⟩) (n := 3) (by kernel_rfl) hh
theorem S210 {k l m u γ : Int} {h j t w : List (List U)} {r : List Int} {x s v : Ob} (hh : PRun Tryz.prog 44 [.o x] [.r 0 0] (post [.L 3] [.A] (fun e y => ∃ (c : Int → Ob → Prop) (f : Int → Ob → Nat), c 0 y ∧ (∀ a : Int, ∀ b : Ob, c a b → (bif decide (a < (zy6 e : Int)) then elL e a (fun d => dI .i64 (ug d 0) (fun ε => dI .i64 (ug d 1) (fun α => dI .i64 (ug d 2) (fun β => (bif β == zy5 .i64 (2 * γ) then PRun Tryz.prog 300 [.o b] [.r 0 0, .i α] (post q7 [.A] (fun ζ δ => (Q (.t []) (q14 g h i j k l m n o p q r δ s t u v w) : Prop))) else c (zy5 .i64 (a + 1)) b ∧ f (zy5 .i64 (a + 1)) b < f a b))))) else Q (.t []) (q14 g h i j k l m n o p q r b s t u v w)))))) : PRun Tryz.prog 210 (q14 g h i j k l m n o p q r x s t u v w) [.r 0 0, .i γ] Q :=
 zad zg8 Tryz.func210 (by kernel_rfl) (H := ⟨[((210, 1, 8), ⟨[(12, .I)], [(3, .A)]⟩)], [], [34], [], [], false, 64, KN.no, false, SP.no⟩) (n := 3) (by kernel_rfl) hh
theorem S102 {w y β γ δ ε η ξ τ : Int} {x α ζ θ ν π : List (List U)} {ι : List Int} {κ μ ο : Ob} (hh : PRun Tryz.prog 210 (q14 w x y α β γ δ ε ζ η θ ι κ μ ν ξ ο π) [.r 0 0, .i d] (post [] q1 (fun e f g h i j k l b m n o p q r s t ρ => (PRun Tryz.prog 211 [.o ρ] [.r 0 0, .i d] (post q10 [.A] (fun c σ u => ∀ a : Bool → Prop, (∀ v : Bool, ((bif v then PRun Tryz.prog 200 (q14 e f g h i j k l m n o p q r s t u b) [.r 0 0, .i c, .i τ] (post [] q1 (fun υ φ χ ψ ω a0 a1 a2 a3 a4 a5 a6 a7 a8 a9 b0 b1 b2 => (Q (.t []) (q18 υ φ χ ψ ω a0 a1 a2 a4 a5 a6 a7 a8 a9 b0 b1 b2 a3) : Prop))) else Q (.t []) (q18 e f g h i j k l m n o p q r s t u b))) → a v) → (bif σ == 0 then (bif decide (c > 0) then a (decide (c ≤ (zy6 b : Int))) else a false) else a false))) : Prop)))) : PRun Tryz.prog 102 (q14 w x y α β γ δ ε ζ η θ ι κ μ ν ξ ο π) [.r 0 0, .i d, .i τ] Q :=
 zad zg8 Tryz.func102 (by kernel_rfl) (H := ⟨[], [((102, 3, 9), ⟨[(34, .B)], []⟩)], [], [], [], false, 64, KN.no, false, SP.no⟩) (n := 2) (by kernel_rfl) hh
theorem S92 {c e l r φ χ ψ w ω a0 a1 a2 a3 a5 a6 a7 a8 y : Int} {d f k m s a4 : List (List U)} {n : List Int} {o p v : Ob} (hh : PRun Tryz.prog 106 [] [.i t] (post q7 [] (fun u => (PRun Tryz.prog 199 [.o v] [.r 0 0, .i w, .i u, .i a] (post [.B, .I] [.A] (fun x υ b => (bif x then PRun Tryz.prog 200 (q14 c d e f g h i j k l m n o p q r b s) [.r 0 0, .i a, .i y] (post [] q1 (fun α β γ δ ε ζ η θ ι κ μ ν ξ ο π ρ σ τ => (Q (.t []) (q18 α β γ δ ε ζ η θ κ μ ν ξ ο π ρ σ τ ι) : Prop))) else Q (.t []) (q14 c d e f g h i j k l m n o p q r b s) : Prop))) : Prop)))) : PRun Tryz.prog 92 (q14 c d e f g h i j k l m n o p q r v s) [.r 0 0, q17 a t φ χ ψ w ω a0 a1 a2 a3 a4 a5 a6 a7 a8, .i y] Q :=
 zad zg8 Tryz.func92 (by kernel_rfl) (H := ⟨[], [], [], [], [], false, 64, KN.no, false, SP.no⟩) (n := 2) (by kernel_rfl) hh
theorem S110 {e k l w x y α β γ δ ε ζ c θ ι κ : Int} {f h m s b η : List (List U)} {p : List Int} {q r u : Ob} (hh : 0 ≤ zy5 .i64 (a - 1) ∧ zy5 .i64 (a - 1) < (zy6 b : Int) ∧ (PRun Tryz.prog 102 (q14 e f g h i j k l m n o p q r s t u (zzm b (zy8 (zy5 .i64 (a - 1))) (q27 a v w x y α β γ δ ε ζ η c θ ι κ))) [.r 0 0, .i a, .i d] (post [] q1 (fun μ ν ξ ο π ρ σ τ υ φ χ ψ ω a0 a1 a2 a3 a4 => (PRun Tryz.prog 216 [.o a1] [.r 0 0, q16 d 1 a c] (post q7 [.A] (fun a6 a5 => (Q (.t []) (q18 μ ν ξ ο π ρ σ τ φ χ ψ ω a0 a5 a2 a3 a4 υ) : Prop))) : Prop))))) : PRun Tryz.prog 110 (q14 e f g h i j k l m n o p q r s t u b) [.r 0 0, q17 a v w x y α β γ δ ε ζ η c θ ι κ, .i d] Q :=
 zad zg8 Tryz.func110 (by kernel_rfl) (H := ⟨[], [], [], [], [], false, 64, KN.no, false, SP.no⟩) (n := 2) (by kernel_rfl) hh
theorem S30 {k m s c : Int} {g l n r b : List (List U)} {o : List Int} {p q t : Ob} (hh : bif decide (c < 1) then Q (.t [(q17 0 0 0 0 0 0 0 0 0 0 0 [] 0 0 0 0), .i 3]) (q14 d e f g h i j k l m n o p q r s t b) else (bif decide (c > (zy6 b : Int)) then Q (.t [(q17 0 0 0 0 0 0 0 0 0 0 0 [] 0 0 0 0), .i 3]) (q14 d e f g h i j k l m n o p q r s t b) else 0 ≤ zy5 .i64 (c - 1) ∧ zy5 .i64 (c - 1) < (zy6 b : Int) ∧ (elL b (zy5 .i64 (c - 1)) (fun a => dI .i64 (ug a 0) (fun u => dI .i64 (ug a 1) (fun v => dI .i64 (ug a 2) (fun w => dI .i64 (ug a 3) (fun x => dI .i64 (ug a 4) (fun y => dI .i64 (ug a 5) (fun α => dI .i64 (ug a 6) (fun β => dI .i64 (ug a 7) (fun γ => dI .i64 (ug a 8) (fun δ => dI .i64 (ug a 9) (fun ε => dI .i64 (ug a 10) (fun ζ => dL 2 (ug a 11) (fun η => dI .i64 (ug a 12) (fun θ => dI .i64 (ug a 13) (fun ι => dI .i64 (ug a 14) (fun κ => dI .i64 (ug a 15) (fun μ => PRun Tryz.prog 93 [] [.l 2 η] (post [.L 2] [] (fun ν => (Q (.t [(q17 u v w x y α β γ δ ε ζ ν θ ι κ μ), .i 0]) (q14 d e f g h i j k l m n o p q r s t b) : Prop))))))))))))))))))))))) : PRun Tryz.prog 30 (q14 d e f g h i j k l m n o p q r s t b) [.r 0 0, .i c] Q :=
 zad zg8 Tryz.func30 (by kernel_rfl) (H := ⟨[], [], [41], [], [], false, 64, KN.no, false, SP.no⟩) (n := 3) (by kernel_rfl) hh
theorem S10 {a9 b1 b3 b4 b5 b6 b8 c4 : Int} {b0 b2 b7 b9 c3 ο : List (List U)} {c0 : List Int} {c1 c2 c5 : Ob} (hh : ∃ (u : List (List U) → Int → Int → List (List U) → Int → List (List U) → Int → Int → Int → Int → List (List U) → List (List U) → Int → List (List U) → List Int → Ob → Ob → List (List U) → Int → Ob → Prop) (ξ : List (List U) → Int → Int → List (List U) → Int → List (List U) → Int → Int → Int → Int → List (List U) → List (List U) → Int → List (List U) → List Int → Ob → Ob → List (List U) → Int → Ob → Nat), u [] 0 a9 b0 b1 b2 b3 b4 b5 b6 ο b7 b8 b9 c0 c1 c2 c3 c4 c5 ∧ (∀ a : List (List U), ∀ b c : Int, ∀ d : List (List U), ∀ e : Int, ∀ f : List (List U), ∀ g h i j : Int, ∀ k l : List (List U), ∀ m : Int, ∀ n : List (List U), ∀ o : List Int, ∀ p q : Ob, ∀ r : List (List U), ∀ s : Int, ∀ t : Ob, u a b c d e f g h i j k l m n o p q r s t → (bif decide (b < (zy6 ο : Int)) then PRun Tryz.prog 30 (q14 c d e f g h i j l m n o p q r s t k) [.r 0 0, .i (zy5 .i64 (b + 1))] (post q2 q1 (fun v w x y α β γ δ ε ζ η θ ι κ μ ν c6 π ρ σ τ υ φ χ ψ ω a0 a1 a2 a3 a4 a5 a6 a7 a8 => (zak a [(q27 v w x y α β γ δ ε ζ η θ ι κ μ ν)] ∧ (u (a ++ [(q27 v w x y α β γ δ ε ζ η θ ι κ μ ν)]) (zy5 .i64 (b + 1)) π ρ σ τ υ φ χ ψ ω a0 a1 a2 a3 a4 a5 a6 a7 a8 ∧ ξ (a ++ [(q27 v w x y α β γ δ ε ζ η θ ι κ μ ν)]) (zy5 .i64 (b + 1)) π ρ σ τ υ φ χ ψ ω a0 a1 a2 a3 a4 a5 a6 a7 a8 < ξ a b c d e f g h i j k l m n o p q r s t) : Prop))) else Q (.l 16 a) (q18 c d e f g h i j l m n o p q r s t k)))) : PRun Tryz.prog 10 (q14 a9 b0 b1 b2 b3 b4 b5 b6 b7 b8 b9 c0 c1 c2 c3 c4 c5 ο) [.r 0 0] Q :=
 zad zg8 Tryz.func10 (by kernel_rfl) (H := ⟨[((10, 5, 8), ⟨[(3, .one (.ow 48 16)), (15, .I)], [(0, .c [.i .i64, .l 7, .i .i64, .l 4, .i .i64, .i .i64, .i .i64, .i .i64, .r 1 0, .r 2 0, .r 3 0, .r 4 0, .r 5 0, .r 6 0, .ow 48 16]), (1, .c [.l 5, .i .i64]), (2, .c [.l 5, .n 33]), (3, .A), (4, .A), (5, .c [.l 13, .i .i64]), (6, .A)]⟩)], [], [41], [], [], false, 64, KN.no, false, SP.no⟩) (n := 3) (by kernel_rfl) hh
theorem S23 {k m s : Int} {g l n r t : List (List U)} {o : List Int} {p q a : Ob} (hh : PRun Tryz.prog 73 [.o a] [.r 0 0] (post [.L 2] [.A] (fun b c => (Q (.l 2 b) (q14 d e f g h i j k l m n o p q r s c t) : Prop)))) : PRun Tryz.prog 23 (q14 d e f g h i j k l m n o p q r s a t) [.r 0 0] Q :=
 zad zg8 Tryz.func23 (by kernel_rfl) (H := ⟨[], [], [41], [], [], false, 64, KN.no, false, SP.no⟩) (n := 3) (by kernel_rfl) hh
end
section
set_option maxRecDepth 100000
theorem zxb : Tryz.prog.follows .mixedOrders = true := by kernel_rfl
theorem S84 {b8 b6 e1 m k l o b9 c0 c1 c2 c3 c4 c5 c6 c7 c8 c9 d0 d1 d2 d3 d4 d6 d7 d8 w x y α β γ δ ε ζ η θ κ μ ν ξ d9 : Int} {b7 p b5 u d5 ι : List (List U)} {q : List Int} {r s t : Ob} (hh : ∀ e0 : Prop, ((PRun Tryz.prog 180 [] [(q24 b c d e f g h i), .i k] (post q8 [] (fun ο υ φ χ e2 => (PRun Tryz.prog 181 [.c [.l 13 b5, .i b6]] [.r 0 0, .i l] (post q5 q4 (fun ψ π ρ σ τ ω a0 a1 a2 e3 a3 a4 => (PRun Tryz.prog 182 [] [(q24 b c d e f g h i), .i τ] (post q11 [] (fun a5 a6 a7 a8 a9 b0 b1 e4 => (PRun Tryz.prog 172 [.c [.l 5 b7, .i b8]] [.r 0 0, .i j] (post q10 q9 (fun b2 e5 b3 b4 => (bif e2 != 0 then Q (.i 3) (q21 b c d e f g h i b3 b4 p q r s a3 a4 t u j m n k l a v o ο υ φ χ ψ π ρ σ τ ω a0 a1 a2 a5 a6 a7 a8 a9 b0 b1 w x y α β γ δ ε ζ η θ ι κ μ ν ξ b2) else (bif e3 != 0 then Q (.i 3) (q21 b c d e f g h i b3 b4 p q r s a3 a4 t u j m n k l a v o ο υ φ χ ψ π ρ σ τ ω a0 a1 a2 a5 a6 a7 a8 a9 b0 b1 w x y α β γ δ ε ζ η θ ι κ μ ν ξ b2) else (bif e4 != 0 then Q (.i 3) (q21 b c d e f g h i b3 b4 p q r s a3 a4 t u j m n k l a v o ο υ φ χ ψ π ρ σ τ ω a0 a1 a2 a5 a6 a7 a8 a9 b0 b1 w x y α β γ δ ε ζ η θ ι κ μ ν ξ b2) else (bif e5 != 0 then Q (.i 3) (q21 b c d e f g h i b3 b4 p q r s a3 a4 t u j m n k l a v o ο υ φ χ ψ π ρ σ τ ω a0 a1 a2 a5 a6 a7 a8 a9 b0 b1 w x y α β γ δ ε ζ η θ ι κ μ ν ξ b2) else (bif decide (j < 1) then Q (.i 3) (q21 b c d e f g h i b3 b4 p q r s a3 a4 t u j m n k l a v o ο υ φ χ ψ π ρ σ τ ω a0 a1 a2 a5 a6 a7 a8 a9 b0 b1 w x y α β γ δ ε ζ η θ ι κ μ ν ξ b2) else (bif π != m then Q (.i 8) (q21 b c d e f g h i b3 b4 p q r s a3 a4 t u j m n k l a v o ο υ φ χ ψ π ρ σ τ ω a0 a1 a2 a5 a6 a7 a8 a9 b0 b1 w x y α β γ δ ε ζ η θ ι κ μ ν ξ b2) else (bif ρ != n then Q (.i 8) (q21 b c d e f g h i b3 b4 p q r s a3 a4 t u j m n k l a v o ο υ φ χ ψ π ρ σ τ ω a0 a1 a2 a5 a6 a7 a8 a9 b0 b1 w x y α β γ δ ε ζ η θ ι κ μ ν ξ b2) else (bif σ != ο then Q (.i 9) (q21 b c d e f g h i b3 b4 p q r s a3 a4 t u j m n k l a v o ο υ φ χ ψ π ρ σ τ ω a0 a1 a2 a5 a6 a7 a8 a9 b0 b1 w x y α β γ δ ε ζ η θ ι κ μ ν ξ b2) else Q (.i 0) (q21 b c d e f g h i b3 b4 p q r s a3 a4 t u j m n k l a v o ο υ φ χ ψ π ρ σ τ ω a0 a1 a2 a5 a6 a7 a8 a9 b0 b1 w x y α β γ δ ε ζ η θ ι κ μ ν ξ b2)))))))) : Prop))) : Prop))) : Prop))) : Prop)))) → e0) → (bif decide (e1 ≥ 0) then (bif !(decide (e1 ≤ 1099511627776)) then Q (.i 1) (q21 b c d e f g h i b7 b8 p q r s b5 b6 t u j m n k l a v o b9 c0 c1 c2 c3 c4 c5 c6 c7 c8 c9 d0 d1 d2 d3 d4 d5 d6 d7 d8 w x y α β γ δ ε ζ η θ ι κ μ ν ξ d9) else (bif decide (a < 1) then Q (.i 1) (q21 b c d e f g h i b7 b8 p q r s b5 b6 t u j m n k l a v o b9 c0 c1 c2 c3 c4 c5 c6 c7 c8 c9 d0 d1 d2 d3 d4 d5 d6 d7 d8 w x y α β γ δ ε ζ η θ ι κ μ ν ξ d9) else (bif decide (a > 4) then Q (.i 1) (q21 b c d e f g h i b7 b8 p q r s b5 b6 t u j m n k l a v o b9 c0 c1 c2 c3 c4 c5 c6 c7 c8 c9 d0 d1 d2 d3 d4 d5 d6 d7 d8 w x y α β γ δ ε ζ η θ ι κ μ ν ξ d9) else (bif a != 4 then (bif o != 0 then Q (.i 1) (q21 b c d e f g h i b7 b8 p q r s b5 b6 t u j m n k l a v o b9 c0 c1 c2 c3 c4 c5 c6 c7 c8 c9 d0 d1 d2 d3 d4 d5 d6 d7 d8 w x y α β γ δ ε ζ η θ ι κ μ ν ξ d9) else e0) else e0)))) else Q (.i 1) (q21 b c d e f g h i b7 b8 p q r s b5 b6 t u j m n k l a v o b9 c0 c1 c2 c3 c4 c5 c6 c7 c8 c9 d0 d1 d2 d3 d4 d5 d6 d7 d8 w x y α β γ δ ε ζ η θ ι κ μ ν ξ d9))) : PRun Tryz.prog 84 (q21 b c d e f g h i b7 b8 p q r s b5 b6 t u j m n k l a v o b9 c0 c1 c2 c3 c4 c5 c6 c7 c8 c9 d0 d1 d2 d3 d4 d5 d6 d7 d8 w x y α β γ δ ε ζ η θ ι κ μ ν ξ d9) [.r 0 0, .i e1, .r 8 0] Q :=
 zad zxb Tryz.func84 (by kernel_rfl) (H := ⟨[], [((84, 3, 9), ⟨[], []⟩)], [104], [], [], false, 64, KN.no, false, SP.no⟩) (n := 3) (by kernel_rfl) hh
theorem S85 {l m o q w x y e α β γ δ ε ζ η θ ι κ μ ν ξ ο π c ρ σ τ φ χ ψ ω a0 a1 a2 a3 a4 a5 a6 a7 a8 a9 b1 b2 b3 b4 b5 : Int} {i k p r v a υ b0 : List (List U)} {s : List Int} {t u c1 : Ob} (hh : ∃ (b9 : Int → Int → Prop) (b8 : Int → Int → Nat), b9 0 0 ∧ (∀ b6 d : Int, b9 b6 d → (bif decide (d < (zy6 a : Int)) then 0 ≤ d ∧ d < (zy6 a : Int) ∧ (elL a d (fun b => dI .i64 (ug b 0) (fun c6 => dI .i64 (ug b 1) (fun c7 => dI .i64 (ug b 2) (fun c8 => dI .i64 (ug b 3) (fun c9 => dI .i64 (ug b 4) (fun c3 => dI .i64 (ug b 5) (fun d0 => dI .i64 (ug b 6) (fun d1 => dI .i64 (ug b 7) (fun d2 => dI .i64 (ug b 8) (fun d3 => dI .i64 (ug b 9) (fun d4 => dI .i64 (ug b 10) (fun d5 => dL 2 (ug b 11) (fun d6 => dI .i64 (ug b 12) (fun d7 => dI .i64 (ug b 13) (fun d8 => dI .i64 (ug b 14) (fun d9 => dI .i64 (ug b 15) (fun e0 => (bif c3 == f then PRun Tryz.prog 183 [] [(q17 c6 c7 c8 c9 c3 d0 d1 d2 d3 d4 d5 d6 d7 d8 d9 e0)] (post [.B] [] (fun e1 => (bif e1 then b9 (zy5 .i64 (b6 + 1)) (zy5 .i64 (d + 1)) ∧ b8 (zy5 .i64 (b6 + 1)) (zy5 .i64 (d + 1)) < b8 b6 d else b9 b6 (zy5 .i64 (d + 1)) ∧ b8 b6 (zy5 .i64 (d + 1)) < b8 b6 d : Prop))) else b9 b6 (zy5 .i64 (d + 1)) ∧ b8 b6 (zy5 .i64 (d + 1)) < b8 b6 d))))))))))))))))))) else (bif decide ((zy6 a : Int) ≥ 64) then Q (.i 4) (q21 h i j k l m n o p q r s t u v w c1 a f x y e α g β γ δ ε ζ η θ ι κ μ ν ξ ο π c ρ σ τ υ φ χ ψ ω a0 a1 a2 a3 a4 a5 a6 a7 a8 a9 b0 b1 b2 b3 b4 b5) else (bif decide (b6 ≥ 6) then Q (.i 10) (q21 h i j k l m n o p q r s t u v w c1 a f x y e α g β γ δ ε ζ η θ ι κ μ ν ξ ο π c ρ σ τ υ φ χ ψ ω a0 a1 a2 a3 a4 a5 a6 a7 a8 a9 b0 b1 b2 b3 b4 b5) else PRun Tryz.prog 106 [] [.i g] (post q7 [] (fun c4 => (PRun Tryz.prog 213 [.o c1] [.r 0 0, .i e, .i c4] (post q10 [.A] (fun e2 c2 b7 => (bif c2 != 0 then (bif !(c2 == 0) then Q (.i 10) (q21 h i j k l m n o p q r s t u v w b7 a f x y e α g β γ δ ε ζ η θ ι κ μ ν ξ ο π c ρ σ τ υ φ χ ψ ω a0 a1 a2 a3 a4 a5 a6 a7 a8 a9 b0 b1 b2 b3 b4 b5) else (bif c != 0 then Q (.i 12) (q21 h i j k l m n o p q r s t u v w b7 a f x y e α g β γ δ ε ζ η θ ι κ μ ν ξ ο π c ρ σ τ υ φ χ ψ ω a0 a1 a2 a3 a4 a5 a6 a7 a8 a9 b0 b1 b2 b3 b4 b5) else Q (.i 0) (q21 h i j k l m n o p q r s t u v w b7 a f x y e α g β γ δ ε ζ η θ ι κ μ ν ξ ο π c ρ σ τ υ φ χ ψ ω a0 a1 a2 a3 a4 a5 a6 a7 a8 a9 b0 b1 b2 b3 b4 b5))) else (bif decide (e2 > 0) then (bif !(c2 == 0) then Q (.i 10) (q21 h i j k l m n o p q r s t u v w b7 a f x y e α g β γ δ ε ζ η θ ι κ μ ν ξ ο π c ρ σ τ υ φ χ ψ ω a0 a1 a2 a3 a4 a5 a6 a7 a8 a9 b0 b1 b2 b3 b4 b5) else (bif c != 0 then Q (.i 12) (q21 h i j k l m n o p q r s t u v w b7 a f x y e α g β γ δ ε ζ η θ ι κ μ ν ξ ο π c ρ σ τ υ φ χ ψ ω a0 a1 a2 a3 a4 a5 a6 a7 a8 a9 b0 b1 b2 b3 b4 b5) else Q (.i 0) (q21 h i j k l m n o p q r s t u v w b7 a f x y e α g β γ δ ε ζ η θ ι κ μ ν ξ ο π c ρ σ τ υ φ χ ψ ω a0 a1 a2 a3 a4 a5 a6 a7 a8 a9 b0 b1 b2 b3 b4 b5))) else PRun Tryz.prog 73 [.o b7] [.r 0 0] (post [.L 2] [.A] (fun e3 c0 => (elL e3 (zy5 .i64 (zy5 .i64 (2 * zy5 .i64 (e - 1)) + c4)) (fun c5 => dL 1 (ug c5 0) (fun e4 => dL 1 (ug c5 1) (fun e5 => (bif decide ((zy6 e4 : Int) > 0) then (bif !(decide ((zy6 e5 : Int) < 8)) then Q (.i 10) (q21 h i j k l m n o p q r s t u v w c0 a f x y e α g β γ δ ε ζ η θ ι κ μ ν ξ ο π c ρ σ τ υ φ χ ψ ω a0 a1 a2 a3 a4 a5 a6 a7 a8 a9 b0 b1 b2 b3 b4 b5) else (bif c != 0 then Q (.i 12) (q21 h i j k l m n o p q r s t u v w c0 a f x y e α g β γ δ ε ζ η θ ι κ μ ν ξ ο π c ρ σ τ υ φ χ ψ ω a0 a1 a2 a3 a4 a5 a6 a7 a8 a9 b0 b1 b2 b3 b4 b5) else Q (.i 0) (q21 h i j k l m n o p q r s t u v w c0 a f x y e α g β γ δ ε ζ η θ ι κ μ ν ξ ο π c ρ σ τ υ φ χ ψ ω a0 a1 a2 a3 a4 a5 a6 a7 a8 a9 b0 b1 b2 b3 b4 b5))) else Q (.i 10) (q21 h i j k l m n o p q r s t u v w c0 a f x y e α g β γ δ ε ζ η θ ι κ μ ν ξ ο π c ρ σ τ υ φ χ ψ ω a0 a1 a2 a3 a4 a5 a6 a7 a8 a9 b0 b1 b2 b3 b4 b5))))) : Prop)))) : Prop))) : Prop)))))))) : PRun Tryz.prog 85 (q21 h i j k l m n o p q r s t u v w c1 a f x y e α g β γ δ ε ζ η θ ι κ μ ν ξ ο π c ρ σ τ υ φ χ ψ ω a0 a1 a2 a3 a4 a5 a6 a7 a8 a9 b0 b1 b2 b3 b4 b5) [.r 0 0, .r 8 0] Q :=
 zad zxb Tryz.func85 (by kernel_rfl) (H := ⟨[((85, 3, 9), ⟨[(5, .I), (13, .I)], []⟩)], [], [105], [], [], false, 64, KN.no, false, SP.no⟩) (n := 3) (by kernel_rfl) hh
theorem S86 {o q r m s u w x y α β k l γ c e δ ε ζ η θ ι κ μ ν ψ ξ ο π ρ σ τ : Int} {f υ : List (List U)} (hh : ∀ χ : Prop, ((∀ ω : Int → Int → Int → Int → Int → Int → Int → Int → Int → Int → Int → Int → Int → Int → Int → Int → Int → Int → Int → Int → Int → Int → Int → Int → Int → List (List U) → Int → Int → Int → Int → Int → Int → Int → Int → Int → Int → Int → Int → Int → Int → List (List U) → Int → Int → Int → Int → Int → Prop, (∀ e2 a1 a2 a3 a4 a5 a6 a7 a8 a9 b0 b1 a0 b2 b3 b4 b5 b6 b7 b8 b9 c0 c1 c2 c3 : Int, ∀ c4 : List (List U), ∀ c5 c6 c7 c8 c9 d0 d1 d2 d3 d4 d5 d6 φ e3 : Int, ∀ d7 : List (List U), ∀ d8 d9 e0 e4 e1 : Int, ((bif e2 != 0 then Q (.i 11) (q28 a1 a2 a3 a4 a5 a6 a7 a8 a9 b0 b1 a0 b2 b3 b4 b5 b6 b7 b8 b9 c0 c1 c2 c3 c4 c5 c6 c7 c8 c9 d0 d1 d2 d3 d4 d5 d6 φ e3 d7 d8 d9 e0 e4 e1) else PRun Tryz.prog 188 [] [.i a0, .i (if φ > 1 then φ else 1)] (post q10 [] (fun e7 e8 => (Q (.i e8) (q28 a1 a2 a3 a4 a5 a6 a7 a8 a9 b0 b1 a0 b2 b3 b4 b5 b6 b7 b8 b9 c0 c1 c2 c3 c4 c5 c6 c7 c8 c9 d0 d1 d2 d3 d4 d5 d6 (if φ > 1 then φ else 1) e7 d7 d8 d9 e0 (if φ > 1 then φ else 1) e1) : Prop))))) → ω e2 a1 a2 a3 a4 a5 a6 a7 a8 a9 b0 b1 a0 b2 b3 b4 b5 b6 b7 b8 b9 c0 c1 c2 c3 c4 c5 c6 c7 c8 c9 d0 d1 d2 d3 d4 d5 d6 φ e3 d7 d8 d9 e0 e4 e1) → (bif b == 1 then PRun Tryz.prog 184 [] [(q22 c d e f g h i), .i k, .i a] (post [.L 2, .I] [] (fun e5 e6 => (bif e6 != 0 then Q (.i e6) (q28 n o p q r b a m s t u v w x y α β k l j γ c d e f g h i δ ε ζ η θ ι κ μ ν ψ ξ e5 ο π ρ σ τ) else PRun Tryz.prog 185 [] [(q22 c d e f g h i), .i l, .i a] (post q10 [] (fun e9 f0 => (ω f0 n o p q r b a m s t u v w x y α β k l j γ c d e f g h i δ ε ζ η θ ι κ μ ν e9 ξ e5 ο π ρ σ τ : Prop))) : Prop))) else (bif b == 2 then PRun Tryz.prog 186 [] [(q22 c d e f g h i), .i k, .i a] (post q10 [] (fun f1 f2 => (ω f2 n o p q r b a m s t u v w x y α β k l j γ c d e f g h i δ ε ζ η θ ι κ μ ν f1 ξ υ ο π ρ σ τ : Prop))) else (bif b == 3 then PRun Tryz.prog 186 [] [(q22 c d e f g h i), .i l, .i a] (post q10 [] (fun f3 f4 => (ω f4 n o p q r b a m s t u v w x y α β k l j γ c d e f g h i δ ε ζ η θ ι κ μ ν f3 ξ υ ο π ρ σ τ : Prop))) else (bif b == 4 then PRun Tryz.prog 187 [] [(q22 c d e f g h i), .i m, .i a] (post q10 [] (fun f5 f6 => (ω f6 n o p q r b a m s t u v w x y α β k l j γ c d e f g h i δ ε ζ η θ ι κ μ ν f5 ξ υ ο π ρ σ τ : Prop))) else ω 0 n o p q r b a m s t u v w x y α β k l j γ c d e f g h i δ ε ζ η θ ι κ μ ν ψ ξ υ ο π ρ σ τ))))) → χ) → (bif decide (a < 1) then Q (.i 11) (q28 n o p q r b a m s t u v w x y α β k l j γ c d e f g h i δ ε ζ η θ ι κ μ ν ψ ξ υ ο π ρ σ τ) else (bif decide (a > 1000) then Q (.i 11) (q28 n o p q r b a m s t u v w x y α β k l j γ c d e f g h i δ ε ζ η θ ι κ μ ν ψ ξ υ ο π ρ σ τ) else (bif b != 1 then (bif !(j == -1) then Q (.i 11) (q28 n o p q r b a m s t u v w x y α β k l j γ c d e f g h i δ ε ζ η θ ι κ μ ν ψ ξ υ ο π ρ σ τ) else (bif b == 1 then (bif !(j == -1) then (bif decide (j < a) then Q (.i 11) (q28 n o p q r b a m s t u v w x y α β k l j γ c d e f g h i δ ε ζ η θ ι κ μ ν ψ ξ υ ο π ρ σ τ) else χ) else χ) else χ)) else (bif b == 1 then (bif !(j == -1) then (bif decide (j < a) then Q (.i 11) (q28 n o p q r b a m s t u v w x y α β k l j γ c d e f g h i δ ε ζ η θ ι κ μ ν ψ ξ υ ο π ρ σ τ) else χ) else χ) else χ))))) : PRun Tryz.prog 86 (q28 n o p q r b a m s t u v w x y α β k l j γ c d e f g h i δ ε ζ η θ ι κ μ ν ψ ξ υ ο π ρ σ τ) [.r 0 0] Q :=
 zad zxb Tryz.func86 (by kernel_rfl) (H := ⟨[], [((86, 8, 1), ⟨[], []⟩), ((86, 21, 1), ⟨[(4, .I)], [(0, .c [.i .i64, .i .i64, .i .i64, .i .i64, .i .i64, .i .i64, .i .i64, .i .i64, .i .i64, .i .i64, .i .i64, .i .i64, .i .i64, .i .i64, .i .i64, .i .i64, .i .i64, .i .i64, .i .i64, .i .i64, .i .i64, .i .i64, .i .i64, .i .i64, .l 2, .i .i64, .i .i64, .i .i64, .i .i64, .i .i64, .i .i64, .i .i64, .i .i64, .i .i64, .i .i64, .i .i64, .i .i64, .i .i64, .i .i64, .l 2, .i .i64, .i .i64, .i .i64, .i .i64, .i .i64])]⟩)], [], [], [], false, 64, KN.no, false, SP.no⟩) (n := 2) (by kernel_rfl) hh
end
section
set_option maxRecDepth 100000
theorem zki : Tryz.prog.follows .mixedOrders = true := by kernel_rfl
theorem S35 {w y β γ δ ε η ξ u : Int} {x α ζ θ ν π : List (List U)} {ι : List Int} {κ μ ο : Ob} (hh : PRun Tryz.prog 30 (q14 w x y α β γ δ ε ζ η θ ι κ μ ν ξ ο π) [.r 0 0, .i a] (post q2 q1 (fun ρ σ τ υ φ χ ψ ω a0 a1 a2 a3 a4 a5 a6 a7 c d e f g h i j k b l m n o p q r s t => (bif c != 0 then (bif c == 0 then 0 ≤ zy5 .i64 (a - 1) ∧ zy5 .i64 (a - 1) < (zy6 b : Int) ∧ (PRun Tryz.prog 102 (q14 d e f g h i j k l m n o p q r s t (zzm b (zy8 (zy5 .i64 (a - 1))) (q27 0 0 0 0 0 0 0 0 0 0 0 [] 0 0 0 0))) [.r 0 0, .i a, .i u] (post [] q1 (fun a8 a9 b0 b1 b2 b3 b4 b5 b6 b7 b8 b9 c0 c1 c2 c3 c4 c5 => (Q (.i c) (q18 a8 a9 b0 b1 b2 b3 b4 b5 b7 b8 b9 c0 c1 c2 c3 c4 c5 b6) : Prop)))) else Q (.i c) (q18 d e f g h i j k l m n o p q r s t b)) else PRun Tryz.prog 101 [] [(q17 ρ σ τ υ φ χ ψ ω a0 a1 a2 a3 a4 a5 a6 a7), .i u] (post q2 [] (fun c6 c7 c8 c9 d0 d1 d2 d3 d4 d5 d6 d7 d8 d9 e0 e1 v => (bif v == 0 then 0 ≤ zy5 .i64 (a - 1) ∧ zy5 .i64 (a - 1) < (zy6 b : Int) ∧ (PRun Tryz.prog 102 (q14 d e f g h i j k l m n o p q r s t (zzm b (zy8 (zy5 .i64 (a - 1))) (q27 c6 c7 c8 c9 d0 d1 d2 d3 d4 d5 d6 d7 d8 d9 e0 e1))) [.r 0 0, .i a, .i u] (post [] q1 (fun e2 e3 e4 e5 e6 e7 e8 e9 f0 f1 f2 f3 f4 f5 f6 f7 f8 f9 => (Q (.i v) (q18 e2 e3 e4 e5 e6 e7 e8 e9 f1 f2 f3 f4 f5 f6 f7 f8 f9 f0) : Prop)))) else Q (.i v) (q18 d e f g h i j k l m n o p q r s t b) : Prop))) : Prop)))) : PRun Tryz.prog 35 (q14 w x y α β γ δ ε ζ η θ ι κ μ ν ξ ο π) [.r 0 0, .i u, .i a] Q :=
 zad zki Tryz.func35 (by kernel_rfl) (H := ⟨[], [], [94, 100], [], [], false, 64, KN.no, false, SP.no⟩) (n := 4) (by kernel_rfl) hh
theorem S36 {a8 b0 b2 b3 b4 b5 b7 c3 r : Int} {a9 b1 b6 b8 c2 c5 : List (List U)} {b9 : List Int} {c0 c1 c4 : Ob} (hh : PRun Tryz.prog 30 (q14 a8 a9 b0 b1 b2 b3 b4 b5 b6 b7 b8 b9 c0 c1 c2 c3 c4 c5) [.r 0 0, .i r] (post q2 q1 (fun c6 c7 c8 c9 d0 d1 d2 d3 d4 d5 d6 d7 d8 d9 e0 e1 α b c d e f g h i a j k l m n o p q s => (bif α != 0 then ∀ w : Ob → Prop, (∀ ι : Ob, (0 ≤ zy5 .i64 (r - 1) ∧ zy5 .i64 (r - 1) < (zy6 a : Int) ∧ (PRun Tryz.prog 92 (q14 b c d e f g h i j k l m n o p q ι (zzm a (zy8 (zy5 .i64 (r - 1))) (q27 0 0 0 0 0 0 0 0 0 0 0 [] 0 0 0 0))) [.r 0 0, q17 0 0 0 0 0 0 0 0 0 0 0 [] 0 0 0 0, .i t] (post [] q1 (fun e2 e3 e4 e5 e6 e7 e8 e9 f0 f1 f2 f3 f4 f5 f6 f7 f8 f9 => (Q (.i 0) (q18 e2 e3 e4 e5 e6 e7 e8 e9 f1 f2 f3 f4 f5 f6 f7 f8 f9 f0) : Prop))))) → w ι) → (bif α != 0 then Q (.i α) (q18 b c d e f g h i j k l m n o p q s a) else ∀ β : Bool → Prop, (∀ κ : Bool, ((bif κ then Q (.i 1) (q18 b c d e f g h i j k l m n o p q s a) else PRun Tryz.prog 106 [] [.i 0] (post q7 [] (fun μ => (PRun Tryz.prog 213 [.o s] [.r 0 0, .i 0, .i μ] (post q10 [.A] (fun g0 γ u => (bif γ != 0 then (bif !(γ == 0) then Q (.i 10) (q18 b c d e f g h i j k l m n o p q u a) else w u) else (bif decide (g0 > 0) then (bif !(γ == 0) then Q (.i 10) (q18 b c d e f g h i j k l m n o p q u a) else w u) else PRun Tryz.prog 73 [.o u] [.r 0 0] (post [.L 2] [.A] (fun g1 δ => (elL g1 (zy5 .i64 (-2 + μ)) (fun ν => dL 1 (ug ν 0) (fun g2 => dL 1 (ug ν 1) (fun g3 => (bif decide ((zy6 g2 : Int) > 0) then (bif !(decide ((zy6 g3 : Int) < 8)) then Q (.i 10) (q18 b c d e f g h i j k l m n o p q δ a) else w δ) else Q (.i 10) (q18 b c d e f g h i j k l m n o p q δ a))))) : Prop)))) : Prop))) : Prop))))) → β κ) → (bif decide (t ≥ 0) then β (!(decide (t ≤ 1099511627776))) else β true)) else PRun Tryz.prog 103 [] [(q17 c6 c7 c8 c9 d0 d1 d2 d3 d4 d5 d6 d7 d8 d9 e0 e1)] (post q2 [] (fun ξ ε ο π ρ x σ τ υ φ χ ψ ω a0 a1 a2 a3 => ∀ y : Ob → Prop, (∀ a4 : Ob, (0 ≤ zy5 .i64 (r - 1) ∧ zy5 .i64 (r - 1) < (zy6 a : Int) ∧ (PRun Tryz.prog 92 (q14 b c d e f g h i j k l m n o p q a4 (zzm a (zy8 (zy5 .i64 (r - 1))) (q27 ξ ε ο π ρ x σ τ υ φ χ ψ ω a0 a1 a2))) [.r 0 0, q17 ξ ε ο π ρ x σ τ υ φ χ ψ ω a0 a1 a2, .i t] (post [] q1 (fun g4 g5 g6 g7 g8 g9 h0 h1 h2 h3 h4 h5 h6 h7 h8 h9 i0 i1 => (Q (.i 0) (q18 g4 g5 g6 g7 g8 g9 h0 h1 h3 h4 h5 h6 h7 h8 h9 i0 i1 h2) : Prop))))) → y a4) → (bif a3 != 0 then Q (.i a3) (q18 b c d e f g h i j k l m n o p q s a) else ∀ ζ : Bool → Prop, (∀ a5 : Bool, ((bif a5 then Q (.i 1) (q18 b c d e f g h i j k l m n o p q s a) else PRun Tryz.prog 106 [] [.i ε] (post q7 [] (fun a6 => (PRun Tryz.prog 213 [.o s] [.r 0 0, .i x, .i a6] (post q10 [.A] (fun i2 η v => (bif η != 0 then (bif !(η == 0) then Q (.i 10) (q18 b c d e f g h i j k l m n o p q v a) else y v) else (bif decide (i2 > 0) then (bif !(η == 0) then Q (.i 10) (q18 b c d e f g h i j k l m n o p q v a) else y v) else PRun Tryz.prog 73 [.o v] [.r 0 0] (post [.L 2] [.A] (fun i3 θ => (elL i3 (zy5 .i64 (zy5 .i64 (2 * zy5 .i64 (x - 1)) + a6)) (fun a7 => dL 1 (ug a7 0) (fun i4 => dL 1 (ug a7 1) (fun i5 => (bif decide ((zy6 i4 : Int) > 0) then (bif !(decide ((zy6 i5 : Int) < 8)) then Q (.i 10) (q18 b c d e f g h i j k l m n o p q θ a) else y θ) else Q (.i 10) (q18 b c d e f g h i j k l m n o p q θ a))))) : Prop)))) : Prop))) : Prop))))) → ζ a5) → (bif decide (t ≥ 0) then ζ (!(decide (t ≤ 1099511627776))) else ζ true)))) : Prop)))) : PRun Tryz.prog 36 (q14 a8 a9 b0 b1 b2 b3 b4 b5 b6 b7 b8 b9 c0 c1 c2 c3 c4 c5) [.r 0 0, .i t, .i r] Q :=
 zad zki Tryz.func36 (by kernel_rfl) (H := ⟨[], [((36, 5, 12), ⟨[(19, .B)], []⟩), ((36, 8, 12), ⟨[], [(6, .A)]⟩)], [94, 104, 105], [], [], false, 64, KN.no, false, SP.no⟩) (n := 3) (by kernel_rfl) hh
theorem S37 {ι μ ξ ο π ρ τ a0 k : Int} {κ ν σ υ ω a2 : List (List U)} {φ : List Int} {χ ψ a1 : Ob} (hh : PRun Tryz.prog 30 (q14 ι κ μ ν ξ ο π ρ σ τ υ φ χ ψ ω a0 a1 a2) [.r 0 0, .i k] (post q2 q1 (fun a3 a4 a5 a6 a7 a8 a9 b0 b1 b2 b3 b4 b5 b6 b7 b8 u a b c d e f g h l m n o p q r i j s => (bif u != 0 then (bif u != 0 then Q (.i u) (q18 a b c d e f g h m n o p q r i j s l) else dup2 (PRun Tryz.prog 180 [] [(q24 a b c d e f g h), .i 0] (post q8 [] (fun x h5 h6 h7 h8 => (PRun Tryz.prog 109 (q15 o p) [.r 0 0, .i 1, .i k, .i x, q16 0 0 x 1] (post q7 q3 (fun h9 b9 c0 => (PRun Tryz.prog 97 [.c [.l 13 i, .i j]] [.r 0 0, .i 0, .i k, .i 0] (post q7 q4 (fun i0 c1 c2 => (PRun Tryz.prog 110 (q14 a b c d e f g h m n b9 c0 q r c1 c2 s l) [.r 0 0, q17 0 0 0 0 0 0 0 0 0 0 0 [] 0 0 0 0, .i t] (post [] q1 (fun c3 c4 c5 c6 c7 c8 c9 d0 d1 d2 d3 d4 d5 d6 d7 d8 d9 e0 => (Q (.i 0) (q18 c3 c4 c5 c6 c7 c8 c9 d0 d2 d3 d4 d5 d6 d7 d8 d9 e0 d1) : Prop))) : Prop))) : Prop))) : Prop))))) else (bif decide (t ≥ 0) then (bif !(decide (t ≤ 1099511627776)) then Q (.i 1) (q18 a b c d e f g h m n o p q r i j s l) else PRun Tryz.prog 108 [] [(q17 a3 a4 a5 a6 a7 a8 a9 b0 b1 b2 b3 b4 b5 b6 b7 b8)] (post q2 [] (fun e1 y α β e2 γ v δ e3 e4 e5 e6 e7 e8 e9 f0 ε => (bif ε != 0 then Q (.i ε) (q18 a b c d e f g h m n o p q r i j s l) else dup2 (PRun Tryz.prog 180 [] [(q24 a b c d e f g h), .i γ] (post q8 [] (fun ζ i1 i2 i3 i4 => (PRun Tryz.prog 109 (q15 o p) [.r 0 0, .i 1, .i k, .i ζ, q16 α β ζ 1] (post q7 q3 (fun i5 f1 f2 => ∀ w : List (List U) → Int → Prop, (∀ η : List (List U), ∀ θ : Int, (PRun Tryz.prog 110 (q14 a b c d e f g h m n f1 f2 q r η θ s l) [.r 0 0, q17 e1 y α β e2 γ v δ e3 e4 e5 e6 e7 e8 e9 f0, .i t] (post [] q1 (fun f3 f4 f5 f6 f7 f8 f9 g0 g1 g2 g3 g4 g5 g6 g7 g8 g9 h0 => (Q (.i 0) (q18 f3 f4 f5 f6 f7 f8 f9 g0 g2 g3 g4 g5 g6 g7 g8 g9 h0 g1) : Prop)))) → w η θ) → (bif y == 1 then PRun Tryz.prog 97 [.c [.l 13 i, .i j]] [.r 0 0, .i v, .i k, .i δ] (post q7 q4 (fun i6 h1 h2 => (w h1 h2 : Prop))) else PRun Tryz.prog 97 [.c [.l 13 i, .i j]] [.r 0 0, .i v, .i k, .i 0] (post q7 q4 (fun i7 h3 h4 => (w h3 h4 : Prop)))))) : Prop)))) : Prop)))) else Q (.i 1) (q18 a b c d e f g h m n o p q r i j s l)) : Prop)))) : PRun Tryz.prog 37 (q14 ι κ μ ν ξ ο π ρ σ τ υ φ χ ψ ω a0 a1 a2) [.r 0 0, .i t, .i k] Q :=
 zad zki Tryz.func37 (by kernel_rfl) (H := ⟨[], [((37, 7, 19), ⟨[], [(5, .c [.l 13, .i .i64])]⟩)], [88, 91, 94, 104, 107], [], [], false, 64, KN.no, false, SP.no⟩) (n := 5) (by kernel_rfl) hh
theorem S40 {x α β γ δ ζ ν π : Int} {w y ε η μ ο : List (List U)} {θ : List Int} {ι κ ξ : Ob} (hh : PRun Tryz.prog 30 (q14 v w x y α β γ δ ε ζ η θ ι κ μ ν ξ ο) [.r 0 0, .i π] (post q2 q1 (fun ρ σ τ υ φ χ ψ ω a0 a1 a2 a3 a4 a5 a6 a7 a b c d e f g h i j k l m n o p q r s => (bif a != 0 then (bif a == 0 then PRun Tryz.prog 110 (q14 b c d e f g h i k l m n o p q r s j) [.r 0 0, q17 0 0 0 0 0 0 0 0 0 0 0 [] 0 0 0 0, .i t] (post [] q1 (fun a8 a9 b0 b1 b2 b3 b4 b5 b6 b7 b8 b9 c0 c1 c2 c3 c4 c5 => (Q (.i a) (q18 a8 a9 b0 b1 b2 b3 b4 b5 b7 b8 b9 c0 c1 c2 c3 c4 c5 b6) : Prop))) else Q (.i a) (q18 b c d e f g h i k l m n o p q r s j)) else PRun Tryz.prog 114 [] [(q17 ρ σ τ υ φ χ ψ ω a0 a1 a2 a3 a4 a5 a6 a7), .i t] (post q2 [] (fun c6 c7 c8 c9 d0 d1 d2 d3 d4 d5 d6 d7 d8 d9 e0 e1 u => (bif u == 0 then PRun Tryz.prog 110 (q14 b c d e f g h i k l m n o p q r s j) [.r 0 0, q17 c6 c7 c8 c9 d0 d1 d2 d3 d4 d5 d6 d7 d8 d9 e0 e1, .i t] (post [] q1 (fun e2 e3 e4 e5 e6 e7 e8 e9 f0 f1 f2 f3 f4 f5 f6 f7 f8 f9 => (Q (.i u) (q18 e2 e3 e4 e5 e6 e7 e8 e9 f1 f2 f3 f4 f5 f6 f7 f8 f9 f0) : Prop))) else Q (.i u) (q18 b c d e f g h i k l m n o p q r s j) : Prop))) : Prop)))) : PRun Tryz.prog 40 (q14 v w x y α β γ δ ε ζ η θ ι κ μ ν ξ ο) [.r 0 0, .i t, .i π] Q :=
 zad zki Tryz.func40 (by kernel_rfl) (H := ⟨[], [], [94, 113], [], [], false, 64, KN.no, false, SP.no⟩) (n := 4) (by kernel_rfl) hh
theorem S31 {c7 c9 d1 d2 d3 d4 d6 e2 : Int} {c8 d0 d5 d7 e1 e4 : List (List U)} {d8 : List Int} {d9 e0 e3 : Ob} (hh : PRun Tryz.prog 30 (q14 c7 c8 c9 d0 d1 d2 d3 d4 d5 d6 d7 d8 d9 e0 e1 e2 e3 e4) [.r 0 0, .i a] (post q2 q1 (fun e5 e6 e7 e8 e9 f0 f1 f2 f3 f4 f5 f6 f7 f8 f9 g0 t c d e f g h i j b k l m n o p q r s => (bif t != 0 then (bif t == 0 then PRun Tryz.prog 96 (q14 c d e f g h i j k l m n o p q r s b) [.r 0 0, q17 0 0 0 0 0 0 0 0 0 0 0 [] 0 0 0 0] (post q7 q1 (fun w σ τ υ φ χ ψ ω a0 x a1 a2 a3 a4 a5 a6 a7 a8 a9 => (bif w == 0 then PRun Tryz.prog 97 [.c [.l 13 a7, .i a8]] [.r 0 0, .i 0, .i a, .i 0] (post q7 q4 (fun g9 g1 g2 => (0 ≤ zy5 .i64 (a - 1) ∧ zy5 .i64 (a - 1) < (zy6 x : Int) ∧ (Q (.i w) (q18 σ τ υ φ χ ψ ω a0 a1 a2 a3 a4 a5 a6 g1 g2 a9 (zzm x (zy8 (zy5 .i64 (a - 1))) (q27 0 0 0 0 0 0 0 0 0 0 0 [] 0 0 0 0)))) : Prop))) else Q (.i w) (q18 σ τ υ φ χ ψ ω a0 a1 a2 a3 a4 a5 a6 a7 a8 a9 x) : Prop))) else (bif t == 0 then PRun Tryz.prog 97 [.c [.l 13 q, .i r]] [.r 0 0, .i 0, .i a, .i 0] (post q7 q4 (fun h0 g3 g4 => (0 ≤ zy5 .i64 (a - 1) ∧ zy5 .i64 (a - 1) < (zy6 b : Int) ∧ (Q (.i t) (q18 c d e f g h i j k l m n o p g3 g4 s (zzm b (zy8 (zy5 .i64 (a - 1))) (q27 0 0 0 0 0 0 0 0 0 0 0 [] 0 0 0 0)))) : Prop))) else Q (.i t) (q18 c d e f g h i j k l m n o p q r s b))) else PRun Tryz.prog 95 [] [(q17 e5 e6 e7 e8 e9 f0 f1 f2 f3 f4 f5 f6 f7 f8 f9 g0)] (post q2 [] (fun y α β γ δ ε u ζ η θ ι κ μ ν ξ ο v => (bif v == 0 then PRun Tryz.prog 96 (q14 c d e f g h i j k l m n o p q r s b) [.r 0 0, q17 y α β γ δ ε u ζ η θ ι κ μ ν ξ ο] (post q7 q1 (fun π b0 b1 b2 b3 b4 b5 b6 b7 ρ b8 b9 c0 c1 c2 c3 c4 c5 c6 => (bif π == 0 then PRun Tryz.prog 97 [.c [.l 13 c4, .i c5]] [.r 0 0, .i u, .i a, .i 0] (post q7 q4 (fun h1 g5 g6 => (0 ≤ zy5 .i64 (a - 1) ∧ zy5 .i64 (a - 1) < (zy6 ρ : Int) ∧ (Q (.i π) (q18 b0 b1 b2 b3 b4 b5 b6 b7 b8 b9 c0 c1 c2 c3 g5 g6 c6 (zzm ρ (zy8 (zy5 .i64 (a - 1))) (q27 y α β γ δ ε u ζ η θ ι κ μ ν ξ ο)))) : Prop))) else Q (.i π) (q18 b0 b1 b2 b3 b4 b5 b6 b7 b8 b9 c0 c1 c2 c3 c4 c5 c6 ρ) : Prop))) else (bif v == 0 then PRun Tryz.prog 97 [.c [.l 13 q, .i r]] [.r 0 0, .i u, .i a, .i 0] (post q7 q4 (fun h2 g7 g8 => (0 ≤ zy5 .i64 (a - 1) ∧ zy5 .i64 (a - 1) < (zy6 b : Int) ∧ (Q (.i v) (q18 c d e f g h i j k l m n o p g7 g8 s (zzm b (zy8 (zy5 .i64 (a - 1))) (q27 y α β γ δ ε u ζ η θ ι κ μ ν ξ ο)))) : Prop))) else Q (.i v) (q18 c d e f g h i j k l m n o p q r s b)) : Prop))) : Prop)))) : PRun Tryz.prog 31 (q14 c7 c8 c9 d0 d1 d2 d3 d4 d5 d6 d7 d8 d9 e0 e1 e2 e3 e4) [.r 0 0, .i a] Q :=
 zad zki Tryz.func31 (by kernel_rfl) (H := ⟨[], [], [94], [], [], false, 64, KN.no, false, SP.no⟩) (n := 3) (by kernel_rfl) hh
theorem S96 {c e l γ ρ υ φ c8 π s u a3 c9 d0 d2 d3 d4 d5 : Int} {b d k β p d1 : List (List U)} {r : List Int} {m n o : Ob} (hh : dup2 (PRun Tryz.prog 181 [.c [.l 13 β, .i γ]] [.r 0 0, .i s] (post q5 q4 (fun a7 a8 a9 b0 δ b1 b2 b3 b4 b5 i j => (bif t == 1 then dup2 (PRun Tryz.prog 182 [] [(q24 a b c d e f g h), .i δ] (post q11 [] (fun ε ζ η θ ι κ μ b6 => (PRun Tryz.prog 203 [] [(q22 ε ζ η θ ι κ μ), .i u] (post [.agg [.i .i64, .i .i64], .I] [] (fun x y b7 => (PRun Tryz.prog 14 (q15 q r) [.r 0 0, .i x] (post q7 q3 (fun ν v w => (PRun Tryz.prog 173 [] [.i ν, .i y] (post q10 [] (fun ξ ο => (bif ο != 0 then Q (.i 5) (q14 a b c d e f g h k l v w m n i j o p) else (bif decide (ξ > 1125899906842624) then Q (.i 5) (q14 a b c d e f g h k l v w m n i j o p) else dup2 (PRun Tryz.prog 180 [] [(q24 a b c d e f g h), .i π] (post q8 [] (fun α b8 b9 c0 c1 => (PRun Tryz.prog 204 (q15 v w) [.r 0 0, .i 1, .i ρ, .i α] (post [.L 2, .I] q3 (fun c2 c3 σ τ => (PRun Tryz.prog 205 (q15 σ τ) [.r 0 0, q16 υ φ α x, .i y] (post q7 q3 (fun c4 χ ψ => (Q (.i 0) (q14 a b c d e f g h k l χ ψ m n i j o p) : Prop))) : Prop))) : Prop))))) : Prop))) : Prop))) : Prop))) : Prop)))) else (bif t == 2 then PRun Tryz.prog 206 [.c [.l 13 i, .i j]] [.r 0 0, .i s, .i u, .i 0] (post q7 q4 (fun c5 ω a0 => (Q (.i 0) (q14 a b c d e f g h k l q r m n ω a0 o p) : Prop))) else (bif t == 3 then PRun Tryz.prog 206 [.c [.l 13 i, .i j]] [.r 0 0, .i s, .i 0, .i u] (post q7 q4 (fun c6 a1 a2 => (Q (.i 0) (q14 a b c d e f g h k l q r m n a1 a2 o p) : Prop))) else (bif t == 4 then PRun Tryz.prog 207 [.c [.l 13 i, .i j]] [.r 0 0, .i s, .i a3, .i u] (post [.L 1, .I] q4 (fun c7 a4 a5 a6 => (Q (.i a4) (q14 a b c d e f g h k l q r m n a5 a6 o p) : Prop))) else Q (.i 0) (q14 a b c d e f g h k l q r m n i j o p)))) : Prop))))) : PRun Tryz.prog 96 (q14 a b c d e f g h k l q r m n β γ o p) [.r 0 0, q17 ρ t υ φ c8 π s u a3 c9 d0 d1 d2 d3 d4 d5] Q :=
 zad zki Tryz.func96 (by kernel_rfl) (H := ⟨[], [], [88], [], [], false, 64, KN.no, false, SP.no⟩) (n := 3) (by kernel_rfl) hh
end
section
set_option maxRecDepth 100000
theorem mixTl2 : Tryz.prog.follows .mixedOrders = true := by kernel_rfl
theorem S9 {k q ο l8 b4 b5 b6 b7 b8 b9 c0 c1 : Int} {j l p s : List (List U)} {m : List Int} {n o r : Ob} (hh : bif t == 1 then PRun Tryz.prog 29 (q14 b c d e f g h i j k l m n o p q r s) [.r 0 0, .i a, .a [.i b4, .i b5, .i b6, .i b7, .i b8, .i b9, .i c0, .i c1]] (post q10 q1 (fun c2 c3 c4 c5 c6 c7 c8 c9 d0 d1 d2 d3 d4 d5 d6 d7 d8 d9 e0 e1 => (Q (.t [.i a, .i c2, .i c3]) (q18 c4 c5 c6 c7 c8 c9 d0 d1 d3 d4 d5 d6 d7 d8 d9 e0 e1 d2) : Prop))) else (bif t == 2 then PRun Tryz.prog 35 (q14 b c d e f g h i j k l m n o p q r s) [.r 0 0, .i a, .i ο] (post q7 q1 (fun e2 e3 e4 e5 e6 e7 e8 e9 f0 f1 f2 f3 f4 f5 f6 f7 f8 f9 g0 => (Q (.t [.i a, .i 0, .i e2]) (q18 e3 e4 e5 e6 e7 e8 e9 f0 f2 f3 f4 f5 f6 f7 f8 f9 g0 f1) : Prop))) else (bif t == 3 then PRun Tryz.prog 36 (q14 b c d e f g h i j k l m n o p q r s) [.r 0 0, .i a, .i ο] (post q7 q1 (fun g1 g2 g3 g4 g5 g6 g7 g8 g9 h0 h1 h2 h3 h4 h5 h6 h7 h8 h9 => (Q (.t [.i a, .i 0, .i g1]) (q18 g2 g3 g4 g5 g6 g7 g8 g9 h1 h2 h3 h4 h5 h6 h7 h8 h9 h0) : Prop))) else (bif t == 4 then PRun Tryz.prog 37 (q14 b c d e f g h i j k l m n o p q r s) [.r 0 0, .i a, .i ο] (post q7 q1 (fun i0 i1 i2 i3 i4 i5 i6 i7 i8 i9 j0 j1 j2 j3 j4 j5 j6 j7 j8 => (Q (.t [.i a, .i 0, .i i0]) (q18 i1 i2 i3 i4 i5 i6 i7 i8 j0 j1 j2 j3 j4 j5 j6 j7 j8 i9) : Prop))) else (bif t == 5 then PRun Tryz.prog 31 (q14 b c d e f g h i j k l m n o p q r s) [.r 0 0, .i ο] (post q7 q1 (fun j9 k0 k1 k2 k3 k4 k5 k6 k7 k8 k9 l0 l1 l2 l3 l4 l5 l6 l7 => (Q (.t [.i a, .i 0, .i j9]) (q18 k0 k1 k2 k3 k4 k5 k6 k7 k9 l0 l1 l2 l3 l4 l5 l6 l7 k8) : Prop))) else PRun Tryz.prog 38 [] [.i l8] (post q7 [] (fun ρ => ∃ (σ : Int → Int → List (List U) → Int → List (List U) → Int → Int → Int → Int → List (List U) → List (List U) → Int → List (List U) → List Int → Ob → Ob → List (List U) → Int → Ob → Prop) (τ : Int → Int → List (List U) → Int → List (List U) → Int → Int → Int → Int → List (List U) → List (List U) → Int → List (List U) → List Int → Ob → Ob → List (List U) → Int → Ob → Nat), σ 0 b c d e f g h i s j k l m n o p q r ∧ (∀ u v : Int, ∀ w : List (List U), ∀ x : Int, ∀ y : List (List U), ∀ α β γ δ : Int, ∀ ε ζ : List (List U), ∀ η : Int, ∀ θ : List (List U), ∀ ι : List Int, ∀ π κ : Ob, ∀ μ : List (List U), ∀ ν : Int, ∀ ξ : Ob, σ u v w x y α β γ δ ε ζ η θ ι π κ μ ν ξ → (bif decide (u < 256) then PRun Tryz.prog 39 [.o π] [.r 0 0, .i (zy5 .i64 (a + ρ))] (post [.agg [.i .i64, .i .i64, .i .i64], .B] [.A] (fun l9 m2 m0 m1 υ => (bif !m1 then Q (.t [.i (zy5 .i64 (a + ρ)), .i 0, .i 0]) (q18 v w x y α β γ δ ζ η θ ι υ κ μ ν ξ ε) else (2 : Int) ≠ 0 ∧ (PRun Tryz.prog 40 (q14 v w x y α β γ δ ζ η θ ι υ κ μ ν ξ ε) [.r 0 0, .i l9, .i (zy5 .i64 (Int.tdiv m0 2))] (post q7 q1 (fun m3 φ χ ψ ω a0 a1 a2 a3 a4 a5 a6 a7 a8 a9 b0 b1 b2 b3 => (σ (zy5 .i64 (u + 1)) φ χ ψ ω a0 a1 a2 a3 a4 a5 a6 a7 a8 a9 b0 b1 b2 b3 ∧ τ (zy5 .i64 (u + 1)) φ χ ψ ω a0 a1 a2 a3 a4 a5 a6 a7 a8 a9 b0 b1 b2 b3 < τ u v w x y α β γ δ ε ζ η θ ι π κ μ ν ξ : Prop)))) : Prop))) else Q (.t [.i (zy5 .i64 (a + ρ)), .i 0, .i 0]) (q18 v w x y α β γ δ ζ η θ ι π κ μ ν ξ ε)))))))))) : PRun Tryz.prog 9 (q14 b c d e f g h i j k l m n o p q r s) [(q26 ), .i a, .a [.i t, .i ο, .i l8, .i b4, .i b5, .i b6, .i b7, .i b8, .i b9, .i c0, .i c1]] Q :=
 zad mixTl2 Tryz.func9 (by kernel_rfl) (H := ⟨[((9, 15, 10), ⟨[(12, .I)], [(0, .c [.i .i64, .l 7, .i .i64, .l 4, .i .i64, .i .i64, .i .i64, .i .i64, .r 1 0, .r 2 0, .r 3 0, .r 4 0, .r 5 0, .r 6 0, .ow 48 16]), (1, .c [.l 5, .i .i64]), (2, .c [.l 5, .n 33]), (3, .A), (4, .A), (5, .c [.l 13, .i .i64]), (6, .A)]⟩)], [], [], [], [], false, 64, KN.no, false, SP.no⟩) (n := 2) (by kernel_rfl) hh
end
section
set_option maxRecDepth 100000
theorem zkj : Tryz.prog.follows .mixedOrders = true := by kernel_rfl
theorem S16 {l q r s u α : Int} {m t v y γ j : List (List U)} {w : List Int} {δ x β : Ob} (hh : PRun Tryz.prog 44 [.o δ] [.r 0 0] (post [.L 3] [.A] (fun g k => ∃ (h : Int → Int → Prop) (i : Int → Int → Nat), h 0 0 ∧ (∀ d b : Int, h d b → (bif decide (b < (zy6 j : Int)) then elL j b (fun ε => dI .i64 (ug ε 12) (fun ζ => (bif ζ != 2 then h d (zy5 .i64 (b + 1)) ∧ i d (zy5 .i64 (b + 1)) < i d b else ∃ (f : Int → Int → Prop) (e : Int → Int → Nat), f 0 0 ∧ (∀ c a : Int, f c a → (bif decide (a < (zy6 g : Int)) then elL g a (fun η => dI .i64 (ug η 2) (fun θ => elL j b (fun ι => dI .i64 (ug ι 0) (fun κ => (bif θ == zy5 .i64 (2 * κ) then elL g a (fun μ => dI .i64 (ug μ 0) (fun ν => elL j b (fun ξ => dI .i64 (ug ξ 14) (fun ο => (bif ν == ο then f (zy5 .i64 (c + 1)) (zy5 .i64 (a + 1)) ∧ e (zy5 .i64 (c + 1)) (zy5 .i64 (a + 1)) < e c a else f c (zy5 .i64 (a + 1)) ∧ e c (zy5 .i64 (a + 1)) < e c a))))) else f c (zy5 .i64 (a + 1)) ∧ e c (zy5 .i64 (a + 1)) < e c a))))) else (bif c != 1 then Q (.u (.b false)) (q14 l m n o p q r s t u v w k x y α β γ) else h (zy5 .i64 (d + 1)) (zy5 .i64 (b + 1)) ∧ i (zy5 .i64 (d + 1)) (zy5 .i64 (b + 1)) < i d b)))))) else Q (.u (.b (d == (zy6 g : Int)))) (q14 l m n o p q r s t u v w k x y α β γ)))))) : PRun Tryz.prog 16 (q14 l m n o p q r s t u v w δ x y α β γ) [(q26 ), .l 16 j] Q :=
 zad zkj Tryz.func16 (by kernel_rfl) (H := ⟨[((16, 4, 9), ⟨[(6, .I), (7, .I)], []⟩), ((16, 10, 9), ⟨[(8, .I), (9, .I)], []⟩)], [], [34], [], [], false, 64, KN.no, false, SP.no⟩) (n := 3) (by kernel_rfl) hh
theorem S17 {ρ τ φ χ ψ ω a1 a7 g4 g6 g7 g8 g9 h0 : Int} {σ υ a0 a2 a6 a9 g5 θ h : List (List U)} {a3 : List Int} {a4 a5 a8 : Ob} (hh : PRun Tryz.prog 23 (q14 ρ σ τ υ φ χ ψ ω a0 a1 a2 a3 a4 a5 a6 a7 a8 a9) [.r 0 0] (post [.L 2] q1 (fun f k l m n o p q r s t u v w x y α β γ => (bif (zy6 f : Int) != zy5 .i64 (2 * (zy6 θ : Int)) then Q (.u (.b false)) (q18 k l m n o p q r t u v w x y α β γ s) else ∃ (ε : Int → Int → Prop) (ζ : Int → Int → Nat), ε 0 0 ∧ (∀ g a : Int, ε g a → (bif decide (a < (zy6 f : Int)) then (2 : Int) ≠ 0 ∧ (elL θ (zy5 .i64 (Int.tdiv a 2)) (fun b0 => dI .i64 (ug b0 1) (fun b1 => (2 : Int) ≠ 0 ∧ (bif Int.tmod a 2 == 1 then (2 : Int) ≠ 0 ∧ (elL θ (zy5 .i64 (Int.tdiv a 2)) (fun b2 => dI .i64 (ug b2 2) (fun b3 => elL f a (fun b4 => dL 1 (ug b4 0) (fun b5 => (bif decide ((zy6 b5 : Int) > b3) then Q (.u (.b false)) (q18 k l m n o p q r t u v w x y α β γ s) else elL f a (fun b6 => dL 1 (ug b6 0) (fun μ => elL f a (fun b7 => dL 1 (ug b7 1) (fun ν => ε (zy5 .i64 (zy5 .i64 (g + (zy6 μ : Int)) + (zy6 ν : Int))) (zy5 .i64 (a + 1)) ∧ ζ (zy5 .i64 (zy5 .i64 (g + (zy6 μ : Int)) + (zy6 ν : Int))) (zy5 .i64 (a + 1)) < ζ g a)))))))))) else elL f a (fun b8 => dL 1 (ug b8 0) (fun b9 => (bif decide ((zy6 b9 : Int) > b1) then Q (.u (.b false)) (q18 k l m n o p q r t u v w x y α β γ s) else elL f a (fun c0 => dL 1 (ug c0 0) (fun ξ => elL f a (fun c1 => dL 1 (ug c1 1) (fun ο => ε (zy5 .i64 (zy5 .i64 (g + (zy6 ξ : Int)) + (zy6 ο : Int))) (zy5 .i64 (a + 1)) ∧ ζ (zy5 .i64 (zy5 .i64 (g + (zy6 ξ : Int)) + (zy6 ο : Int))) (zy5 .i64 (a + 1)) < ζ g a))))))))))) else ∃ (ι : Int → Int → Prop) (π : Int → Int → Nat), ι g 0 ∧ (∀ i e : Int, ι i e → (bif decide (e < (zy6 h : Int)) then ∀ η : Int → Prop, (∀ κ : Int, (∃ (δ : Int → Prop) (j : Int → Nat), δ 0 ∧ (∀ d : Int, δ d → (bif decide (d < e) then elL h e (fun b => dI .i64 (ug b 0) (fun c2 => dI .i64 (ug b 1) (fun c3 => dI .i64 (ug b 2) (fun c4 => dI .i64 (ug b 3) (fun c5 => dI .i64 (ug b 4) (fun c6 => dI .i64 (ug b 5) (fun c7 => dI .i64 (ug b 6) (fun c8 => dI .i64 (ug b 7) (fun c9 => dI .i64 (ug b 8) (fun d0 => dI .i64 (ug b 9) (fun d1 => dI .i64 (ug b 10) (fun d2 => dL 2 (ug b 11) (fun d3 => dI .i64 (ug b 12) (fun d4 => dI .i64 (ug b 13) (fun d5 => dI .i64 (ug b 14) (fun d6 => dI .i64 (ug b 15) (fun d7 => PRun Tryz.prog 45 [] [(q17 c2 c3 c4 c5 c6 c7 c8 c9 d0 d1 d2 d3 d4 d5 d6 d7)] (post [.B] [] (fun d8 => (bif d8 then elL h d (fun c => dI .i64 (ug c 0) (fun d9 => dI .i64 (ug c 1) (fun e0 => dI .i64 (ug c 2) (fun e1 => dI .i64 (ug c 3) (fun e2 => dI .i64 (ug c 4) (fun e3 => dI .i64 (ug c 5) (fun e4 => dI .i64 (ug c 6) (fun e5 => dI .i64 (ug c 7) (fun e6 => dI .i64 (ug c 8) (fun e7 => dI .i64 (ug c 9) (fun e8 => dI .i64 (ug c 10) (fun e9 => dL 2 (ug c 11) (fun f0 => dI .i64 (ug c 12) (fun f1 => dI .i64 (ug c 13) (fun f2 => dI .i64 (ug c 14) (fun f3 => dI .i64 (ug c 15) (fun f4 => PRun Tryz.prog 45 [] [(q17 d9 e0 e1 e2 e3 e4 e5 e6 e7 e8 e9 f0 f1 f2 f3 f4)] (post [.B] [] (fun f5 => (bif f5 then elL h e (fun f6 => dI .i64 (ug f6 6) (fun f7 => elL h d (fun f8 => dI .i64 (ug f8 6) (fun f9 => (bif f7 == f9 then Q (.u (.b false)) (q18 k l m n o p q r t u v w x y α β γ s) else δ (zy5 .i64 (d + 1)) ∧ j (zy5 .i64 (d + 1)) < j d))))) else δ (zy5 .i64 (d + 1)) ∧ j (zy5 .i64 (d + 1)) < j d : Prop)))))))))))))))))))) else δ (zy5 .i64 (d + 1)) ∧ j (zy5 .i64 (d + 1)) < j d : Prop)))))))))))))))))))) else ι κ (zy5 .i64 (e + 1)) ∧ π κ (zy5 .i64 (e + 1)) < π i e))) → η κ) → elL h e (fun g0 => dI .i64 (ug g0 12) (fun g1 => (bif g1 == 2 then η (zy5 .i64 (i - 1)) else elL h e (fun g2 => dI .i64 (ug g2 12) (fun g3 => (bif g3 == 1 then η (zy5 .i64 (i - 1)) else η i)))))) else Q (.u (.b (i == 0))) (q18 k l m n o p q r t u v w x y α β γ s))))) : Prop)))) : PRun Tryz.prog 17 (q14 ρ σ τ υ φ χ ψ ω a0 a1 a2 a3 a4 a5 a6 a7 a8 a9) [(q24 g4 g5 g6 θ g7 g8 g9 h0), q26 , .l 16 h] Q :=
 zad zkj Tryz.func17 (by kernel_rfl) (H := ⟨[((17, 6, 11), ⟨[(8, .I), (9, .I)], []⟩), ((17, 15, 11), ⟨[(8, .I), (11, .I)], []⟩), ((17, 20, 11), ⟨[(12, .I)], []⟩)], [((17, 19, 11), ⟨[(8, .I), (82, .one .z), (83, .one .z), (84, .one .z), (85, .one .z), (86, .one .z), (87, .one .z)], []⟩)], [], [], [], false, 64, KN.no, false, SP.no⟩) (n := 2) (by kernel_rfl) hh
theorem S15 {d : List (List U)} (hh : bif (zy6 d : Int) != (zy6 e : Int) then Q (.u (.b false)) [] else ∃ (f : Int → Prop) (g : Int → Nat), f 0 ∧ (∀ c : Int, f c → (bif decide (c < (zy6 d : Int)) then (bif decide (c < (zy6 e : Int)) then elL d c (fun a => dI .i64 (ug a 0) (fun h => dI .i64 (ug a 1) (fun i => dI .i64 (ug a 2) (fun j => dI .i64 (ug a 3) (fun k => dI .i64 (ug a 4) (fun l => dI .i64 (ug a 5) (fun m => dI .i64 (ug a 6) (fun n => dI .i64 (ug a 7) (fun o => dI .i64 (ug a 8) (fun p => dI .i64 (ug a 9) (fun q => dI .i64 (ug a 10) (fun r => dL 2 (ug a 11) (fun s => dI .i64 (ug a 12) (fun t => dI .i64 (ug a 13) (fun u => dI .i64 (ug a 14) (fun v => dI .i64 (ug a 15) (fun w => elL e c (fun b => dI .i64 (ug b 0) (fun x => dI .i64 (ug b 1) (fun y => dI .i64 (ug b 2) (fun α => dI .i64 (ug b 3) (fun β => dI .i64 (ug b 4) (fun γ => dI .i64 (ug b 5) (fun δ => dI .i64 (ug b 6) (fun ε => dI .i64 (ug b 7) (fun ζ => dI .i64 (ug b 8) (fun η => dI .i64 (ug b 9) (fun θ => dI .i64 (ug b 10) (fun ι => dL 2 (ug b 11) (fun κ => dI .i64 (ug b 12) (fun μ => dI .i64 (ug b 13) (fun ν => dI .i64 (ug b 14) (fun ξ => dI .i64 (ug b 15) (fun ο => PRun Tryz.prog 43 [] [(q17 h i j k l m n o p q r s t u v w), q17 x y α β γ δ ε ζ η θ ι κ μ ν ξ ο] (post [.B] [] (fun π => (bif !π then Q (.u (.b false)) [] else f (zy5 .i64 (c + 1)) ∧ g (zy5 .i64 (c + 1)) < g c : Prop))))))))))))))))))))))))))))))))))))) else Q (.u (.b true)) []) else Q (.u (.b true)) []))) : PRun Tryz.prog 15 [] [.l 16 d, .l 16 e] Q :=
 zad zkj Tryz.func15 (by kernel_rfl) (H := ⟨[((15, 4, 0), ⟨[(5, .I)], []⟩)], [], [], [], [], false, 64, KN.no, false, SP.no⟩) (n := 2) (by kernel_rfl) hh
theorem S43 {c e k m o q s u w γ ε η ι l r x δ ζ θ κ : Int} {y α : List (List U)} (hh : ∀ a : Bool → Prop, (∀ b : Bool, (Q (.u (.b b)) []) → a b) → (bif c == d then (bif e == f then (bif g == h then (bif i == j then (bif k == l then (bif m == n then (bif o == p then (bif q == r then (bif s == t then (bif u == v then (bif w == x then PRun Tryz.prog 115 [] [.l 2 y, .l 2 α] (post [.B] [] (fun β => (bif β then (bif γ == δ then (bif ε == ζ then (bif η == θ then a (ι == κ) else a false) else a false) else a false) else a false : Prop))) else a false) else a false) else a false) else a false) else a false) else a false) else a false) else a false) else a false) else a false) else a false)) : PRun Tryz.prog 43 [] [(q17 c e g i k m o q s u w y γ ε η ι), q17 d f h j l n p r t v x α δ ζ θ κ] Q :=
 zad zkj Tryz.func43 (by kernel_rfl) (H := ⟨[], [((43, 0, 2), ⟨[(4, .B)], []⟩)], [], [], [], false, 64, KN.no, false, SP.no⟩) (n := 2) (by kernel_rfl) hh
theorem S38 (hh : Q (.i (zy5 .i64 (BitVec.toNat (BitVec.ofInt 64 a &&& (BitVec.ofInt 64 255)) : Int))) []) : PRun Tryz.prog 38 [] [.i a] Q :=
 zad zkj Tryz.func38 (by kernel_rfl) (H := ⟨[], [], [], [], [], false, 64, KN.no, false, SP.no⟩) (n := 2) (by kernel_rfl) hh
theorem S45 {c e k l o : Int} {m : List (List U)} (hh : bif a == 1 then Q (.u (.b true)) [] else (bif a == 2 then Q (.u (.b true)) [] else (bif a == 3 then Q (.u (.b true)) [] else Q (.u (.b (a == 4))) []))) : PRun Tryz.prog 45 [] [(q17 b c d e f g h i j k l m a n o p)] Q :=
 zad zkj Tryz.func45 (by kernel_rfl) (H := ⟨[], [], [], [], [], false, 64, KN.no, false, SP.no⟩) (n := 2) (by kernel_rfl) hh
end
section
set_option maxRecDepth 100000
theorem zxd : Tryz.prog.follows .mixedOrders = true := by kernel_rfl
theorem S33 {a : List (List U)} {c : List (MK × List U)} (hh : PRun Tryz.prog 99 [] [.l 4 a] (post [.L 4] [] (fun b => (Q (.l 4 b) [.c [.w 1, .m 2], .x, .p (.a 2) 1 false c] : Prop)))) : PRun Tryz.prog 33 [.c [.w 1, .m 2], .w 43 4 a, .p (.a 2) 1 false c] [.r 0 0] Q :=
 zad zxd Tryz.func33 (by kernel_rfl) (H := ⟨[], [], [], [], [], false, 64, KN.no, false, SP.no⟩) (n := 2) (by kernel_rfl) hh
theorem S33e (hh : PRun Tryz.prog 99 [] [.l 4 []] (post [.L 4] [] (fun a => (Q (.l 4 a) [.c [.nl 4, .nm]] : Prop)))) : PRun Tryz.prog 33 [.c [.nl 4, .nm]] [.r 0 0] Q :=
 zad zxd Tryz.func33 (by kernel_rfl) (H := ⟨[], [], [], [], [], false, 64, KN.no, false, SP.no⟩) (n := 2) (by kernel_rfl) hh
theorem S99 {a : List (List U)} (hh : bif List.isEmpty a then ((Q (.l 4 []) [] : Prop) ∧ (zak [] a ∧ (match a with | _ :: _ => (Q (.l 4 ([] ++ a)) []) | [] => (Q (.c 4 []) []) : Prop) : Prop)) else (zak [] a ∧ (match a with | _ :: _ => (Q (.l 4 ([] ++ a)) []) | [] => (Q (.c 4 []) []) : Prop) : Prop)) : PRun Tryz.prog 99 [] [.l 4 a] Q :=
 zad zxd Tryz.func99 (by kernel_rfl) (H := ⟨[], [], [], [], [], false, 64, KN.no, false, SP.no⟩) (n := 2) (by kernel_rfl) hh
end
section
variable {P : Program} {D D' : Fz} {ρ ρ' : List Loc} {m m' : Mem} {chs C : List zac} {h h' : zaf} {ro hr : List Nat}
theorem zbp {ops : Array Oper} {Q : Exit → Act → World → Prop} {o : Oper} {rest : List Oper} {a : Act} {n : Nat} (hg : o.guard = none) (hh : o.wpIn (FW r) n P a w (wpListIn (FW r) n P ops Q rest) Q) : wpListIn (FW r) n P ops Q (o :: rest) a w := by
 unfold wpListIn
 rw [if_pos (by simp [Region.wanted, hg])]
 exact hh
theorem zav {a : Act} {l : List Value} {d : Option Tmp} {v : Value} (h : a.tmps.toList = l) : (a.put d v).tmps.toList = lput l d v := by rw [zes, h]
theorem zj6 {ops : Array Oper} {Q : Exit → Act → World → Prop} {a : Act} {n : Nat} (hh : Q .normal a w) : wpListIn (FW r) n P ops Q [] a w := hh
theorem SAt.cget (M : SAt D ρ m chs C h) {b : Nat} {o : Obj} (hm : [(b, o)] ∈ C) : h[b]? = some o :=
 M.st.own (b, o) (List.mem_flatten.2 ⟨_, zzh.2 (.inr hm), zz8 _⟩)
theorem zpo {o : Oper} {a : Act} {Q : Exit → Act → World → Prop} {n : Nat} {v : Value} (hd : zcu o = false) (h : (execOp (ev a.tmps.toList) o).run P w = .ok (.value v) w) (hn : next (a.put o.dst v) w) : o.wpIn (FW r) n P a w next Q :=
 zr5 hd (by unfold Oper.wp; rw [zbd, h]; exact hn)
theorem w_eff {o : Oper} {a : Act} {Q : Exit → Act → World → Prop} {n : Nat} {K : Value → zaf → Prop} (hd : zcu o = false) (h : zuf P ⟨[], [], []⟩ a.tmps.toList o w.heap K) (hn : ∀ v w', K v w'.heap → Same w w' → next (a.put o.dst v) w') : o.wpIn (FW r) n P a w next Q :=
 zr5 hd (zey (SWp.r (zcw h)) (zbd a) rfl hn)
theorem zu4 {T : TypeId} {z : Value} (hl : zdc P T = some (.one z)) {t : List Value} {x : Operand} {b : Nat} {v : Value} (hx : ev t x = .pointer (some ⟨b, 0, none⟩)) (hb : w.heap[b]? = some (.cells #[v] E (0, 0))) :
 (execOp (ev t) ⟨dst, .load T x, ty, pos, after, guard⟩).run P w = .ok (.value v) w := by
 have := zfb (P := P) hl (b := b) (o := 0) (v := v) (w := w) (by rw [za0 hb]; rfl)
 simp [execOp, Instr.loadAt, Instr.sureAddr, hx, this]
theorem zu3 {T : TypeId} {z : Value} (hl : zdc P T = some (.one z)) {a : Act} {x y : Operand} {b : Nat} {u v : Value} {C1 C2 : List zac} (hx : ev a.tmps.toList x = .pointer (some ⟨b, 0, none⟩)) (hy : ev a.tmps.toList y = v) (hs : single v = true)
 (M : SAt D ρ m chs (C1 ++ [(b, .cells #[u] E (0, 0))] :: C2) w.heap) {Q : Exit → Act → World → Prop} {n : Nat} (hn : ∀ w', SAt D ρ m chs (C1 ++ [(b, .cells #[v] E (0, 0))] :: C2) w'.heap → Same w w' → next (a.put dst undef) w') :
 (⟨dst, .store T x y, ty, pos, after, guard⟩ : Oper).wpIn (FW r) n P a w next Q := by
 refine w_eff (K := fun v' h' => v' = undef ∧ SAt D ρ m chs (C1 ++ [(b, .cells #[v] E (0, 0))] :: C2) h') rfl ?_ ?_
 · simp only [zuf, hx, hy, zfp, hl]
   have hq : ∀ v : Value, (([(b, Obj.cells #[v] E (0, 0))] :: (chs ++ (C1 ++ C2))).flatten).Perm (chs ++ (C1 ++ [(b, .cells #[v] E (0, 0))] :: C2)).flatten := fun v => by
    simp only [zz4, zzp]
    exact (z0d _ _ _).trans ((z0d _ _ _).append_left _)
   have S := M.st.perm (hq u).symm
   have S' : St D ([(b, .cells ⟨[u]⟩ E (0, 0))] :: (chs ++ (C1 ++ C2))) w.heap := S
   exact onPtr_s (S'.sk0 (v := v) (o := 0) rfl hs fun h' S2 => ⟨trivial, M.mono (.refl D) (St.perm S2 (hq v))⟩)
 · rintro v' w' ⟨rfl, M'⟩ s
   exact hn w' M' s
theorem w_call {g : FuncId} {a : Act} {x : Operand} {args : Array Operand} {tys : Array TypeId} {f c : Array Value} {K : Value → zaf → Prop} {Q : Exit → Act → World → Prop} {n : Nat}
 (hx : ev a.tmps.toList x = .func (.func g) f c) (hv : (f ++ args.map (ev a.tmps.toList) ++ c).toList = vs) (hrun : Run P g vs w.heap K) (hn : ∀ v w', K v w'.heap → Same w w' → next (a.put dst v) w') : (⟨dst, .call ⟨.value x, args, tys⟩, ty, pos, after, guard⟩ : Oper).wpIn (FW r) n P a w next Q := by
 subst hv
 refine zr5 rfl (zey (K := K) (SWp.r ?_) (zbd a) rfl hn)
 simp only [execOp, resolve, hx, Deferred.ofValue]
 exact zm9 hrun.1 hrun
theorem w_defer {a : Act} {x : Operand} {f : Fn} {p c : Array Value} {tys : Array TypeId} {d : Deferred} {Q : Exit → Act → World → Prop} {n : Nat}
 (hx : ev a.tmps.toList x = .func f p c) (hd : ({ target := .fn f c, args := p } : Deferred) = d) (hn : next (({ a with defers := d :: a.defers } : Act).put dst undef) w) : (⟨dst, .defer ⟨.value x, #[], tys⟩, ty, pos, after, guard⟩ : Oper).wpIn (FW none) n P a w next Q := by
 refine ⟨fun _ _ => trivial, ?_⟩
 rw [show (FW none).round = none from rfl, Oper.semAt_none, zbd]
 simp only [execOp, resolve, hx, Deferred.ofValue]
 subst hd
 simp
 exact hn
structure WhP (P : Program) : Prop where
 fw : P.funcs[190]? = some Tryz.f190
 fc : P.funcs[289]? = some Tryz.f289
 nw : ((Tryz.f190).name == "runtime.NumGoroutine") = false
 nc : ((Tryz.f289).name == "runtime.NumGoroutine") = false
 tp : zdc P 25 = some (.one (.pointer none))
 te : zdc P 33 = some (.one (.int .i64 0))
 ze : (P.info? 33).bind (·.zero) = some (.int .i64 0)
 zp : (P.info? 25).bind (·.zero) = some (.pointer none)
 un : P.underlying 25 = some (.pointer 130)
theorem whp : WhP Tryz.prog := ⟨Tryz.func190, Tryz.func289, by kernel_rfl, by kernel_rfl, by kernel_rfl, by kernel_rfl, by kernel_rfl, by kernel_rfl, by kernel_rfl⟩
end
section
variable {P : Program} {D D' : Fz} {ρ ρ' : List Loc} {m m' : Mem} {chs C : List zac} {h h' : zaf} {ro hr : List Nat}
noncomputable def zek : Code := match Tryz.f289.body with
 | some (.seq _ (.cond _ c _)) => c
 | _ => .skip
def zcg : Code → Array Oper
 | .region _ ops _ => ops
 | _ => #[]
abbrev zw8 : List Nat → zem := fun _ _ _ _ _ => False
noncomputable def finX (P : Program) (ro hr : List Nat) (b o : Nat) (x e : V) (m2 : Mem) (KS : V → Mem → Prop) : Prop :=
 match e with
 | .u (.i .i64 n) => cond (n != 0) (zgw P false ro hr zw8 (zcg zek).toList (fun _ m3 => KS (.u (.i .i64 n)) m3) (zcg zek).toList.length [] [] [.z, .r m2.length 0, .r (m2.length + 1) 0, .i n, .u (.b true), .z, .z, .z, .z, .z] (m2 ++ [.c [x], .c [.r b o]])) (KS (.u (.i .i64 n)) m2)
 | _ => False
noncomputable def zu2 (P : Program) (ro : List Nat) (call : zem) (G : FuncId) (args : List V) (m : Mem) (K : V → Mem → Prop) : Option Prop :=
 cond (zy7 G 190) (match args with
  | [.r b o, .f g a c] => some (call 215 [.r b o] m fun x m1 => cond (zot x) (call g (a ++ c) m1 fun e m2 => finX P ro [] b o x e m2 K) False)
  | _ => some False) none
theorem zsy {vw : Bool} {ops : List Oper} {K : List V → Mem → Prop} : ∀ (n : Nat) (done : List Nat) (held : List (Nat × List Nat)) (t : List V) (m : Mem), zgw P vw (hr ++ ro) [] zw8 ops K n done held t m = zgw P vw ro hr zw8 ops K n done held t m
 | 0, _, _, _, _ => rfl
 | n + 1, done, held, t, m => by
   simp only [zgw, zsy n, zz7, zzj]
theorem isPtr_n {x : V} (h : zot x = true) : ∀ k w l, x ≠ .n k w l := fun k w l e => by subst e; cases h
theorem backD : ∀ o ∈ (zcg zek).toList, zcu o = false := fun o ho => by
 have : ((zcg zek).toList.all fun o => !zcu o) = true := by kernel_rfl
 simpa using z0o.1 this o ho
theorem backMx : ∀ o ∈ (zcg zek).toList, ∀ d, o.dst = some d → d ∈ zcf zek := fun o ho d hd => by
 have e : zek = .region (match zek with | .region i _ _ => i | _ => 0) (zcg zek) true := by kernel_rfl
 rw [e]
 simp only [zcf, zzh]
 exact .inl (List.mem_filterMap.2 ⟨o, ho, hd⟩)
theorem wholeX_S (hmix : P.follows .mixedOrders = true) (hP : WhP P) {X : Fz → List Loc → Prop} {call : zem} (hX : Stab X) (hcall : zgc P X ro hr call) {b o : Nat} {g : FuncId} {a c : List V} {KS : V → Mem → Prop} 
 (M0 : m.length = ρ.length) (hs : call 215 [.r b o] m fun x m1 => cond (zot x) (call g (a ++ c) m1 fun e m2 => finX P (hr ++ ro) [] b o x e m2 KS) False) (xx : X D ρ) (M : SAt D ρ m chs C h) (ha : RpL D ρ vs [.r b o, .f g a c]) : Run P 190 vs h (zc0 ro hr D ρ m chs C KS) := by
 cases ha with
 | cons h1 ha2 =>
 cases ha2 with
 | cons h2 ha3 =>
 cases ha3
 obtain ⟨L, hL, rfl⟩ := h1.r_inv
 obtain ⟨xs, ys, rfl, hxs, hys⟩ := h2.f_inv
 refine ⟨⟨Tryz.f190, hP.fw, hP.nw, rfl⟩, fun w hw => ?_⟩
 subst hw
 refine (callsIn_wide (n := 0)).1 (callsIn_of_wp_marks (F := FW none) hP.fw rfl trivial ?_)
 generalize hB : Value.pointer (some ⟨L.b, o, none⟩) = vB at *
 generalize hF : Value.func (.func g) xs.toArray ys.toArray = vF at *
 -- the frame
 have e0 : ((#[vB, vF] : Array Value) ++ Array.replicate ((Tryz.f190).ntmps - #[vB, vF].size) undef).toList = [vB, vF, undef, undef, undef, undef, undef, undef, undef, undef, undef, undef, undef] := rfl
 generalize h0 : ({ tmps := [vB, vF].toArray ++ Array.replicate ((Tryz.f190).ntmps - [vB, vF].toArray.size) undef, defers := [] } : Act) = a0
 have f0 : a0.tmps.toList = [vB, vF, undef, undef, undef, undef, undef, undef, undef, undef, undef, undef, undef] := by rw [← h0]; exact e0
 have d0 : a0.defers = [] := by rw [← h0]
 clear h0 e0
 have cB : vB.cells = #[vB] := by rw [← hB]; rfl
 -- region 0
 refine wpIn_seq (wpIn_region_list ?_)
 refine zbp rfl ?_
 refine w_eff (K := fun v h' => ∃ b2, v = .pointer (some ⟨b2, 0, none⟩) ∧ SAt D ρ m chs ([(b2, .cells #[vB] 25 (0, 0))] :: C) h') rfl ?_ ?_
 · simp only [zuf, f0]
   exact ⟨_, rfl, by rw [show (ev [vB, vF, undef, undef, undef, undef, undef, undef, undef, undef, undef, undef, undef] (.tmp 0)).cells = #[vB] from cB]; exact M.cpush _⟩
 rintro _ w1 ⟨b2, rfl, M1⟩ s1
 have f1 := zav (d := some 2) (v := (.pointer (some ⟨b2, 0, none⟩))) f0
 have d1 : (a0.put (some 2) (.pointer (some ⟨b2, 0, none⟩))).defers = [] := by rw [zaj, d0]
 generalize a0.put (some 2) (.pointer (some ⟨b2, 0, none⟩)) = a1 at f1 d1 ⊢
 refine zbp rfl ?_
 refine w_eff (K := fun v h' => ∃ b4, v = .pointer (some ⟨b4, 0, none⟩) ∧ SAt D ρ m chs ([(b4, .cells #[.int .i64 0] 33 (0, 0))] :: [(b2, .cells #[vB] 25 (0, 0))] :: C) h') rfl ?_ ?_
 · simp only [zuf]
   rw [hP.ze]
   exact ⟨_, rfl, M1.cpush _⟩
 rintro _ w2 ⟨b4, rfl, M2⟩ s2
 have f2 := zav (d := some 4) (v := (.pointer (some ⟨b4, 0, none⟩))) f1
 have d2 : (a1.put (some 4) (.pointer (some ⟨b4, 0, none⟩))).defers = [] := by rw [zaj, d1]
 generalize a1.put (some 4) (.pointer (some ⟨b4, 0, none⟩)) = a2 at f2 d2 ⊢
 refine zj6 ?_
 -- region 1, the test
 refine wpIn_seq (wpIn_seq (wpIn_region_list (zbp rfl ?_)))
 refine zpo rfl (zu4 hP.tp (b := b2) (v := vB) (E := 25) (by rw [f2]; rfl) (M2.cget (by simp))) ?_
 have f3 := zav (d := some 6) (v := vB) f2
 have d3 : (a2.put (some 6) vB).defers = [] := by rw [zaj, d2]
 generalize a2.put (some 6) vB = a3 at f3 d3 ⊢
 refine zbp rfl ?_
 obtain ⟨vc, hvc, hrc⟩ := zji (P := P) (op := .eql) (T := 25) (x := .tmp 6) (y := .const (.pointer none)) (a := vB) (b := .pointer none) (K := fun v => v = .bool false) (by rw [← hB]; simp only [zul, hP.un]; rfl)
 subst hvc
 refine zpo (v := .bool false) rfl ?_ ?_
 · have e1 : ev a3.tmps.toList (.tmp 6) = vB := by rw [f3]; rfl
   have e2 : ev a3.tmps.toList (.const (.pointer none)) = .pointer none := rfl
   simp only [execOp, e1, e2]
   rw [Sem.run_bind, hrc]
   rfl
 have f4 := zav (d := some 7) (v := (.bool false)) f3
 have d4 : (a3.put (some 7) (.bool false)).defers = [] := by rw [zaj, d3]
 generalize a3.put (some 7) (.bool false) = a4 at f4 d4 ⊢
 refine zj6 ?_
 refine wpIn_cond_false (by rw [zbd, f4]; rfl) (wpIn_skip ?_)
 -- region 3: the clone
 refine wpIn_seq (wpIn_region_list (zbp rfl ?_))
 refine zpo rfl (zu4 hP.tp (b := b2) (v := vB) (E := 25) (by rw [f4]; rfl) (M2.cget (by simp))) ?_
 have f5 := zav (d := some 8) (v := vB) f4
 have d5 : (a4.put (some 8) vB).defers = [] := by rw [zaj, d4]
 generalize a4.put (some 8) vB = a5 at f5 d5 ⊢
 refine zbp rfl ?_
 have hrun1 := hcall (vs := [vB]) xx hs M2 (by rw [← hB]; exact .cons (.r hL) .nil)
 refine w_call (g := 215) (f := #[]) (c := #[]) (vs := [vB]) rfl (by rw [f5]; simp; rfl) hrun1 ?_
 rintro v9 w3 ⟨D1, ρ1, m1, c1, x1, n1, M3, hx1, hk1⟩ s3
 obtain ⟨hp1, hk1⟩ := zaa hk1
 obtain ⟨p9, rfl⟩ := hx1.ptr hp1
 have f6 := zav (d := some 9) (v := .pointer (some p9)) f5
 have d6 : (a5.put (some 9) (.pointer (some p9))).defers = [] := by rw [zaj, d5]
 generalize a5.put (some 9) (.pointer (some p9)) = a6 at f6 d6 ⊢
 refine zbp rfl ?_
 refine w_eff (K := fun v h' => ∃ b5, v = .pointer (some ⟨b5, 0, none⟩) ∧ SAt D1 ρ1 m1 c1 ([(b5, .cells #[.pointer none] 25 (0, 0))] :: [(b4, .cells #[.int .i64 0] 33 (0, 0))] :: [(b2, .cells #[vB] 25 (0, 0))] :: C) h') rfl ?_ ?_
 · simp only [zuf]
   rw [hP.zp]
   exact ⟨_, rfl, M3.cpush _⟩
 rintro _ w4 ⟨b5, rfl, M4⟩ s4
 have f7 := zav (d := some 5) (v := .pointer (some ⟨b5, 0, none⟩)) f6
 have d7 : (a6.put (some 5) (.pointer (some ⟨b5, 0, none⟩))).defers = [] := by rw [zaj, d6]
 generalize a6.put (some 5) (.pointer (some ⟨b5, 0, none⟩)) = a7 at f7 d7 ⊢
 refine zbp rfl ?_
 refine zu3 hP.tp (C1 := []) (b := b5) (u := .pointer none) (v := .pointer (some p9)) (by rw [f7]; rfl) (by rw [f7]; rfl) rfl M4 ?_
 intro w5 M5 s5
 have f8 := zav (d := none) (v := undef) f7
 have d8 : (a7.put none undef).defers = [] := by rw [zaj, d7]
 generalize a7.put none undef = a8 at f8 d8 ⊢
 refine zj6 ?_
 -- region 4: what is deferred
 refine wpIn_seq (wpIn_region_list (zbp rfl ?_))
 refine zpo (v := .func (.func 289) #[] #[.pointer (some ⟨b4, 0, none⟩), .pointer (some ⟨b5, 0, none⟩), .pointer (some ⟨b2, 0, none⟩)]) rfl ?_ ?_
 · simp only [execOp, Instr.makeFunc, f8, List.map_toArray, zzv, z1m]; rfl
 have f9 := zav (d := some 10) (v := .func (.func 289) #[] #[.pointer (some ⟨b4, 0, none⟩), .pointer (some ⟨b5, 0, none⟩), .pointer (some ⟨b2, 0, none⟩)]) f8
 have d9 : (a8.put (some 10) (.func (.func 289) #[] #[.pointer (some ⟨b4, 0, none⟩), .pointer (some ⟨b5, 0, none⟩), .pointer (some ⟨b2, 0, none⟩)])).defers = [] := by rw [zaj, d8]
 generalize a8.put (some 10) (.func (.func 289) #[] #[.pointer (some ⟨b4, 0, none⟩), .pointer (some ⟨b5, 0, none⟩), .pointer (some ⟨b2, 0, none⟩)]) = a9 at f9 d9 ⊢
 refine zbp rfl ?_
 generalize hd : ({ target := .fn (.func 289) #[.pointer (some ⟨b4, 0, none⟩), .pointer (some ⟨b5, 0, none⟩), .pointer (some ⟨b2, 0, none⟩)], args := #[] } : Deferred) = dd
 refine w_defer (f := .func 289) (p := #[]) (c := #[.pointer (some ⟨b4, 0, none⟩), .pointer (some ⟨b5, 0, none⟩), .pointer (some ⟨b2, 0, none⟩)]) (d := dd) (by rw [f9]; rfl) hd ?_
 have f10 := zav (a := { a9 with defers := dd :: a9.defers }) (d := none) (v := undef) f9
 have d10 : (({ a9 with defers := dd :: a9.defers } : Act).put none undef).defers = [dd] := by rw [zaj, d9]
 generalize ({ a9 with defers := dd :: a9.defers } : Act).put none undef = a10 at f10 d10 ⊢
 refine zj6 ?_
 -- region 5: the call
 refine wpIn_seq (wpIn_region_list (zbp rfl ?_))
 refine zpo (v := vF) rfl ?_ ?_
 · simp only [execOp, f10]; rfl
 have f11 := zav (d := some 11) (v := vF) f10
 have d11 : (a10.put (some 11) vF).defers = [dd] := by rw [zaj, d10]
 generalize a10.put (some 11) vF = a11 at f11 d11 ⊢
 refine zbp rfl ?_
 have hrun2 := hcall (hX.nx n1 xx) hk1 M5 (n1.rpL (hxs.app hys))
 refine w_call (g := g) (f := xs.toArray) (c := ys.toArray) (vs := xs ++ ys) (by rw [f11, ← hF]; rfl) (by simp) hrun2 ?_
 rintro v12 w6 ⟨D2, ρ2, m2, c2, x2, n2, M6, hx2, hk2⟩ s6
 obtain ⟨z, hz, hk3⟩ : ∃ z : Int, x2 = .u (.i .i64 z) ∧ cond (z != 0) (zgw P false (hr ++ ro) [] zw8 (zcg zek).toList (fun _ m3 => KS (.u (.i .i64 z)) m3) (zcg zek).toList.length [] [] [.z, .r m2.length 0, .r (m2.length + 1) 0, .i z, .u (.b true), .z, .z, .z, .z, .z] (m2 ++ [.c [x1], .c [.r b o]])) (KS (.u (.i .i64 z)) m2) := by
  unfold finX at hk2
  split at hk2
  · exact ⟨_, rfl, hk2⟩
  · exact hk2.elim
 subst hz
 have e12 := zhg hx2
 subst e12
 have f12 := zav (d := some 12) (v := .int .i64 z) f11
 have d12 : (a11.put (some 12) (.int .i64 z)).defers = [dd] := by rw [zaj, d11]
 generalize a11.put (some 12) (.int .i64 z) = a12 at f12 d12 ⊢
 refine zbp rfl ?_
 refine zu3 hP.te (C1 := [_]) (b := b4) (u := .int .i64 0) (v := .int .i64 z) (by rw [f12]; rfl) (by rw [f12]; rfl) rfl M6 ?_
 intro w7 M8 s7
 have f13 := zav (d := none) (v := undef) f12
 have d13 : (a12.put none undef).defers = [dd] := by rw [zaj, d12]
 generalize a12.put none undef = a13 at f13 d13 ⊢
 refine zj6 (wpIn_ret ?_)
 -- the door
 show LeavesInM _ _ P _ a13.tmps _ a13.defers .returning w7
 rw [d13, ← hd]
 have ss := s1.trans (s2.trans (s3.trans (s4.trans (s5.trans (s6.trans s7)))))
 have n12 := n1.trans n2
 refine ⟨by simp, .inr ⟨(by intro h; cases h), _, _, _, _, rfl, zd8 ⟨_, hP.fc, hP.nc, rfl⟩ _ _, fun _ _ => trivial, (callsDIn_of_wp (R := fun e w' => e = .returned (.tuple #[]) ∧ Same w7 w' ∧ ∃ D' ρ' m' chs', Nx ro hr D ρ m chs D' ρ' m' chs' ∧ SAt D' ρ' m' chs' ([(b4, .cells #[.int .i64 z] 33 (0, 0))] :: C) w'.heap ∧ KS (.u (.i .i64 z)) m') hP.fc rfl trivial ?_).mono ?_⟩⟩
 · generalize h0 : ({ tmps := #[] ++ #[Value.pointer (some ⟨b4, 0, none⟩), .pointer (some ⟨b5, 0, none⟩), .pointer (some ⟨b2, 0, none⟩)] ++ Array.replicate ((Tryz.f289).ntmps - (#[] ++ #[Value.pointer (some ⟨b4, 0, none⟩), .pointer (some ⟨b5, 0, none⟩), .pointer (some ⟨b2, 0, none⟩)]).size) undef, defers := [] } : Act) = q0
   have g0 : q0.tmps.toList = [Value.pointer (some ⟨b4, 0, none⟩), .pointer (some ⟨b5, 0, none⟩), .pointer (some ⟨b2, 0, none⟩), undef, undef, undef, undef, undef, undef, undef] := by rw [← h0]; rfl
   have k0 : q0.defers = [] := by rw [← h0]
   clear h0
   refine wpIn_seq (wpIn_region_list (zbp rfl ?_))
   refine zpo rfl (zu4 hP.te (b := b4) (v := .int .i64 z) (E := 33) (by rw [g0]; rfl) (M8.cget (by simp))) ?_
   have g1 := zav (d := some 3) (v := .int .i64 z) g0
   have k1 : (q0.put (some 3) (.int .i64 z)).defers = [] := by rw [zaj, k0]
   generalize q0.put (some 3) (.int .i64 z) = q1 at g1 k1 ⊢
   refine zbp rfl ?_
   obtain ⟨vd, hvd, hrd⟩ := zji (P := P) (op := .neq) (T := 33) (x := .tmp 3) (y := .const (.int .i64 0)) (a := .int .i64 z) (b := .int .i64 0) (K := fun v => v = .bool (z != 0)) rfl
   subst hvd
   refine zpo (v := .bool (z != 0)) rfl ?_ ?_
   · have e1 : ev q1.tmps.toList (.tmp 3) = .int .i64 z := by rw [g1]; rfl
     have e2 : ev q1.tmps.toList (.const (.int .i64 0)) = .int .i64 0 := rfl
     simp only [execOp, e1, e2]
     rw [Sem.run_bind, hrd]
     rfl
   have g2 := zav (d := some 4) (v := .bool (z != 0)) g1
   have k2 : (q1.put (some 4) (.bool (z != 0))).defers = [] := by rw [zaj, k1]
   generalize q1.put (some 4) (.bool (z != 0)) = q2 at g2 k2 ⊢
   refine zj6 ?_
   cases hz : (z != 0) with
   | false =>
     rw [hz] at hk3 g2
     refine wpIn_cond_false (by rw [zbd, g2]; rfl) (wpIn_skip ?_)
     refine ⟨k2, .tuple #[], by simp [results], rfl, .refl _, D2, ρ2, m2, c2, n12, ?_, hk3⟩
     have := M8.cdrop
     exact (this.mono (.refl _) (this.st.perm (by simp only [zz4, zzp]; exact (z0d _ _ _).append_left _))).cdrop
   | true =>
     rw [hz] at hk3 g2
     simp only [cond_true] at hk3
     refine wpIn_cond_true (by rw [zbd, g2]; rfl) ?_
     show (Code.region _ (zcg zek) true).wpIn _ _ _ _ _ _
     have hl2 := M8.len
     have hp9 : RpC D2 (ρ2 ++ [⟨b5, none, 0, 0, none⟩]) [.pointer (some p9)] [x1] := .cons (n2.rp hx1 |>.mono (.refl _) (s := [_])) (isPtr_n hp1) .nil
     have M9 := M8.push (L := ⟨b5, none, 0, 0, none⟩) (ab := .c [x1]) (.c hp9)
     have M10 : SAt D2 (ρ2 ++ [⟨b5, none, 0, 0, none⟩]) (m2 ++ [.c [x1]]) (c2 ++ [[(b5, .cells [.pointer (some p9)].toArray 25 (0, 0))]]) ([(b2, .cells [vB].toArray 25 (0, 0))] :: [(b4, .cells #[.int .i64 z] 33 (0, 0))] :: C) w7.heap :=
      M9.mono (.refl _) (M9.st.perm (by simp only [zz4, zzp]; exact (z0d _ _ _).append_left _))
     have hLb : (ρ2 ++ [⟨b5, none, 0, 0, none⟩] ++ [⟨b2, none, 0, 0, none⟩])[b]? = some L := by
      obtain ⟨s', rfl⟩ := n12.pre
      rw [zzj, zzj, zzi (zza.1 hL).1]
      exact hL
     have M11 := M10.push (L := ⟨b2, none, 0, 0, none⟩) (ab := .c [.r b o]) (.c (.cons (by rw [← hB]; exact .r hLb) (fun _ _ _ h => nomatch h) .nil))
     have n5 : Nx ro hr D2 ρ2 m2 c2 D2 (ρ2 ++ [⟨b5, none, 0, 0, none⟩] ++ [⟨b2, none, 0, 0, none⟩]) (m2 ++ [.c [x1]] ++ [.c [.r b o]]) (c2 ++ [[(b5, .cells [.pointer (some p9)].toArray 25 (0, 0))]] ++ [[(b2, .cells [vB].toArray 25 (0, 0))]]) := (Nx.push M6 (s := [⟨b5, none, 0, 0, none⟩] ++ [⟨b2, none, 0, 0, none⟩]) (a := [.c [x1]] ++ [.c [.r b o]]) (c := [[(b5, .cells [.pointer (some p9)].toArray 25 (0, 0))]] ++ [[(b2, .cells [vB].toArray 25 (0, 0))]]) (.refl _)) |> (by simpa only [zzj] using ·)
     have F5 : RpL D2 (ρ2 ++ [⟨b5, none, 0, 0, none⟩] ++ [⟨b2, none, 0, 0, none⟩]) q2.tmps.toList [.z, .r m2.length 0, .r (m2.length + 1) 0, .i z, .u (.b true), .z, .z, .z, .z, .z] := by
      rw [g2]
      refine .cons .z (.cons (.r (L := ⟨b5, none, 0, 0, none⟩) (by rw [← hl2]; simp)) (.cons (.r (L := ⟨b2, none, 0, 0, none⟩) (by rw [← hl2]; simp)) (.cons (.u (.int _ _)) (.cons (.u (.bool _)) (.cons .z (.cons .z (.cons .z (.cons .z (.cons .z .nil)))))))))
     refine wpIn_region_any hmix ?_
     let QQ : Exit → Act → World → Prop := fun e a' w' => e = .normal ∧ UpS (zcf zek) q2.tmps.toList w7 ro hr D2 (ρ2 ++ [⟨b5, none, 0, 0, none⟩] ++ [⟨b2, none, 0, 0, none⟩]) (m2 ++ [.c [x1]] ++ [.c [.r b o]]) (c2 ++ [[(b5, .cells [.pointer (some p9)].toArray 25 (0, 0))]] ++ [[(b2, .cells [vB].toArray 25 (0, 0))]]) ([(b4, .cells #[.int .i64 z] 33 (0, 0))] :: C) (fun _ m3 => KS (.u (.i .i64 z)) m3) a' w'
     have key := draw_S (P := P) (vw := false) (X := fun _ _ => True) (fun _ _ _ => trivial) (hr := hr) (ro := ro) (md := zcf zek) (Q := QQ) (call := zw8) (fun hx {g} {args} {m} {KS} {D} {ρ} {chs} {C} {h} {vs} _ hh => hh.elim) (ops := (zcg zek).toList) (by kernel_rfl) (fun _ _ _ h => by cases h.1) (fun _ _ h => by cases h.1) backMx (zcg zek).toList.length [] [] [] (Array.replicate (zcg zek).toList.length false) q2
      { w7 with drawn := w7.drawn + 1 } _ D2 _ _ _ (by rw [zzj]; exact zsy _ _ _ _ _ ▸ hk3) (by kernel_rfl) ⟨by simp, fun k hk => by rw [zwb true hk]; simp, fun k hk => by simp at hk⟩ (fun j oj hj hl => by rw [zrq] at hl; cases hl)
      k2 trivial M11 F5 (by intro c hc; simp at hc) (fun a' w' hU => ⟨rfl, hU.df, ⟨hU.sm.tape, hU.sm.os, hU.sm.output, Nat.le_trans (z0u _) hU.sm.drawn⟩, hU.ag, hU.ex⟩)
     have h1 := zpm _ _ _ _ _ key
     have h2 := zpg (r := none) (n := 0) (ds := []) backD (fun ⟨_, _, h⟩ => by cases h.1) _ _ _ _ h1
     have h3 := zpf (Qb := bodyPost P Tryz.f289 (fun e w' => e = .returned (.tuple #[]) ∧ Same w7 w' ∧ ∃ D' ρ' m' chs', Nx ro hr D ρ m chs D' ρ' m' chs' ∧ SAt D' ρ' m' chs' ([(b4, .cells #[.int .i64 z] 33 (0, 0))] :: C) w'.heap ∧ KS (.u (.i .i64 z)) m')) (fun e a1 w1 hq => by
      obtain ⟨a0, ⟨rfl, hU⟩, rfl⟩ := hq
      obtain ⟨D', ρ', m', c', t', n', M', F', k⟩ := hU.ex
      exact ⟨by rw [hU.df]; rfl, .tuple #[], by simp [results], rfl, hU.sm, D', ρ', m', c', n12.trans (n5.trans n'), M', k⟩) _ _ _ _ h2
     have e : ({ q2 with defers := q2.defers ++ [] } : Act) = q2 := by rw [zz7]
     rw [e] at h3
     simpa using h3
 · rintro e u' w' ⟨rfl, rfl, sw, D3, ρ3, m3, c3, n3, M9, hk⟩
   have hb4 := M9.cget (b := b4) (o := .cells #[.int .i64 z] 33 (0, 0)) (by simp)
   obtain ⟨v, hv, hr'⟩ := zp4 (P := P) (fn := Tryz.f190) (tmps := a13.tmps) rfl (h := w'.heap) (R := fun v _ => v = .int .i64 z) (by
    rw [f13]
    show zxh P 33 (some ⟨b4, 0, none⟩) w'.heap _
    unfold zxh
    rw [hP.te]
    exact ⟨_, by rw [za0 hb4]; rfl, rfl⟩)
   subst hv
   refine ⟨_, hr' w' rfl, _, rfl, ⟨D3, ρ3, m3, c3, .u (.i .i64 z), n3, M9.cdrop, .u (by constructor), hk⟩, ss.trans sw⟩
theorem mixHg : Tryz.prog.follows .mixedOrders = true := by kernel_rfl
noncomputable def spWhX (hmix : P.follows .mixedOrders = true) (hP : WhP P) : SP P where  -- 190
 f := zu2 P
 ok := by
  intro ro hr X call hX hcall g args m KS p hs hp D ρ chs C h vs xx M ha
  unfold zu2 at hs
  cases hb : zy7 g 190 with
  | false => rw [hb] at hs; cases hs
  | true =>
    rw [hb] at hs
    have := zzd hb
    subst this
    simp only [cond_true] at hs
    split at hs
    · simp only [Option.some.injEq] at hs
      subst hs
      exact wholeX_S hmix hP hX hcall M.len.symm hp xx M ha
    · simp only [Option.some.injEq] at hs
      subst hs
      exact hp.elim
end
section
set_option maxRecDepth 100000
theorem mixTn2 : Tryz.prog.follows .mixedOrders = true := by kernel_rfl
theorem S87 {a g : List (List U)} {b : List Int} {m o k : Int} (hh : PRun Tryz.prog 189 [] [.i j, .i k] (post q10 [] (fun l e => (bif e != 0 then Q (.i e) (q15 a b) else PRun Tryz.prog 192 (q15 a b) [.r 0 0, q16 m n f o, .l 2 g] (post q7 q3 (fun c h i => (bif c != 0 then bif c != 0 then (Q (.i c) (q15 a b)) else (Q (.i c) (q15 h i)) else PRun Tryz.prog 194 [] [.i l, .i f] (post [.agg [.i .i64, .i .i64, .i .i64, .i .i64]] [] (fun p q r s => (PRun Tryz.prog 193 (q15 h i) [.r 0 0, q16 p q r s, .l 2 g] (post q7 q3 (fun d t u => (bif d != 0 then (Q (.i d) (q15 a b)) else (Q (.i d) (q15 t u)) : Prop))) : Prop))) : Prop))) : Prop)))) : PRun Tryz.prog 87 (q15 a b) [.r 0 0, q16 m n f o, .i j, .i k, .l 2 g] Q :=
 zad mixTn2 Tryz.func87 (by kernel_rfl) (H := ⟨[], [], [191, 215], [], [], false, 64, KN.no, false, (spWhX mixHg whp)⟩) (n := 3) (by kernel_rfl) hh
end
end Go.Proofs.YtacglpinmpncaaaGreat
