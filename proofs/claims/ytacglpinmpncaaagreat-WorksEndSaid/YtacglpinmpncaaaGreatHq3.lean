/- The symbolic engine, part l: calls are told rightly; the state at a loop's head. -/
import Derived.Test.YtacglpinmpncaaaGreatHq2
import Derived.Laws.BytesString
import Derived.Lib.ConvBytes
set_option linter.unusedVariables false
namespace Go.Proofs.YtacglpinmpncaaaGreat
variable {ab : AB} {op : BinOp} {ag c vw : Bool} {Q : Exit → Act → World → Prop} {g : FuncId} {D' : Fz} {X : Fz → List Loc → Prop} {i : It} {rows : List (List U)} {zs : List (Value × Nat)} {is : List It} {ρ' : List Loc} {ix : List Nat} {ops : List Oper} {ps : List Pt} {us zr : List U} {l xs : List V} {vs : List Value} {C' CC chs' : List zac} {L : Loc} {mv : MV} {m m' : Mem} {b lim n sz : Nat} {o : Oper} {a : Option Addr} {y : Pt} {S e ty : TypeId} {x : V} {KS : V → Mem → Prop} {v : Value} {K : Value → zaf → Prop} {w : World} {ch : zac} {call : zel}
open _root_.Array renaming getElem?_append_left → z10, getElem?_eq_some_iff → z2y, length_toList → z1z, toArray_toList → z0n
open _root_.Bool renaming and_eq_true → zyy, false_eq_true → z0x, not_eq_true' → zzt, or_eq_false_iff → z2e, or_eq_true → z1p
open _root_.Int renaming le_refl → zzk, mul_le_mul → z1u, natCast_nonneg → z1h, ofNat_lt → z2s
open _root_.List renaming all_cons → z1g, all_eq_true → z0d, append_assoc → zy8, append_nil → zzw, cons_append → zz6, drop_append → z2g, drop_drop → z08, drop_eq_getElem_cons → z1e, drop_eq_nil_of_le → z0u, drop_zero → z09, eq_nil_of_length_eq_zero → z0p, eq_of_mem_replicate → z14, eraseIdx_append_of_lt_length → z02, ext_getElem → z2f, ext_getElem? → z1a, flatten_append → zzs, flatten_cons → zzd, getD_eq_getElem?_getD → z07, getElem?_append_left → zy7, getElem?_append_right → zzn, getElem?_cons_succ → z2c, getElem?_drop → z1d, getElem?_eq_getElem → zy0, getElem?_eq_none → z0m, getElem?_eq_some_iff → zyz, getElem?_map → zy5, getElem?_set_ne → zzp, getElem?_set_self → zz3, getElem?_take → z0l, getElem?_take_of_lt → z3e, getElem?_toArray → z0a, getElem_mem → z2t, length_append → zzl, length_cons → zzg, length_drop → z1j, length_eq_one_iff → z20, length_map → zy2, length_nil → z0z, length_set → zzz, length_take → zz1, map_append → zzr, map_cons → zzj, map_map → zz9, mem_append → zy6, mem_cons → zy3, mem_cons_of_mem → zzo, mem_cons_self → zzq, mem_filter → z0f, mem_flatMap → z1m, mem_map → zzu, mem_of_getElem? → zy4, mem_of_mem_drop → z1s, mem_of_mem_take → z1r, mem_or_eq_of_mem_set → z13, mem_range → z1c, mem_singleton → z0s, mem_singleton_self → zzx, nil_append → zz7, nodup_append → z01, nodup_cons → z0q, perm_append_comm_assoc → zz2, perm_middle → z1l, range → zzh, replicate → zzi, replicate_succ → z1k, set_cons_succ → z2a, set_eq_of_length_le → z12, size_toArray → z00, take_append_drop → z0h, take_nil → z2q, take_of_length_le → z0v
open _root_.Nat renaming add_assoc → z0t, add_mul → z0j, add_zero → z0y, beq → zyw, ble → zzc, ble_eq_true_of_le → z1i, eq_of_beq_eq_true → zy1, le_of_ble_eq_true → zz0, le_refl → zy9, le_succ → z0i, lt_of_lt_of_le → z2b, lt_or_ge → z0o, mul_le_mul_right → z0k, succ_mul → zzy, zero_add → zze, zero_le → zzv, zero_mul → z11
open _root_.Option renaming getD_some → zz8, map_eq_some_iff → z0e, map_some → z0g
open _root_.Go.Result renaming andThen_ok → zza
section
variable {P : Program} {D D' : Fz} {ρ : List Loc} {m : Mem} {chs C : List zac} {h : zaf} {T : List Value} {t : List V}
theorem Rp.r_inv {o : Nat} (hr : Rp D ρ v (.r b o)) : ∃ L, ρ[b]? = some L ∧ v = .pointer (some ⟨L.b, o, none⟩) := by cases hr; exact ⟨_, by assumption, rfl⟩
theorem Rp.e_inv {o : Nat} {k : Int} (hr : Rp D ρ v (.e b sz k o)) : ∃ L p q, ρ[b]? = some L ∧ L.a = some ⟨p, q, none⟩ ∧ 0 ≤ k ∧ k < L.n ∧ v = .pointer (some ⟨p, q + k.toNat * sz + o, none⟩) := by
 cases hr; exact ⟨_, _, _, by assumption, by assumption, by assumption, by assumption, rfl⟩
theorem Rp.g_inv {o w : Nat} {k : Int} (hr : Rp D ρ v (.g b o w k)) : ∃ L, ρ[b]? = some L ∧ 0 ≤ k ∧ k < w ∧ v = .pointer (some ⟨L.b, o + k.toNat, none⟩) := by
 cases hr; exact ⟨_, by assumption, by assumption, by assumption, rfl⟩
theorem Rp.q_inv {c : List U} (hr : Rp D ρ v (.q c n)) : ∃ p o, Rd D (.pointer (some ⟨p, o, none⟩)) (.p (some c)) ∧ v = .pointer (some ⟨p, o + n, none⟩) := by
 cases hr with | q h1 h2 => subst h2; exact ⟨_, _, h1, rfl⟩
theorem Rp.p_inv {c : List U} (hr : Rp D ρ v (.u (.p (some c)))) : ∃ p o, Rd D (.pointer (some ⟨p, o, none⟩)) (.p (some c)) ∧ v = .pointer (some ⟨p, o, none⟩) := by
 cases hr with | u hr => cases h : hr with | pp => exact ⟨_, _, hr, rfl⟩
theorem Rp.w_inv (hr : Rp D ρ v (.w b)) : ∃ L, ρ[b]? = some L ∧ v = .slice L.a L.n L.c := by cases hr; exact ⟨_, by assumption, rfl⟩
theorem Rp.v_inv {l : Nat} (hr : Rp D ρ v (.v b sz l n c)) : ∃ L a cap, ρ[b]? = some L ∧ l + n ≤ L.n ∧ (l = 0 → a = L.a) ∧ (0 < n → ∃ p q, L.a = some ⟨p, q, none⟩ ∧ a = some ⟨p, q + l * sz, none⟩) ∧ n ≤ cap ∧ (c = true → cap = n) ∧ (c = false → l = 0 → cap = L.c) ∧ v = .slice a n cap := by
 cases hr; exact ⟨_, _, _, by assumption, by assumption, by assumption, by assumption, by assumption, by assumption, by assumption, rfl⟩
theorem Rp.sl_inv {o : Nat} (hr : Rp D ρ v (.sl b o n)) : ∃ L a cap, ρ[b]? = some L ∧ (0 < n → a = some ⟨L.b, o, none⟩) ∧ n ≤ cap ∧ v = .slice a n cap := by
 cases hr; exact ⟨_, _, _, by assumption, by assumption, by assumption, rfl⟩
theorem Rp.l_inv (hr : Rp D ρ v (.u (.l sz rows))) : ∃ a c, v = .slice a rows.length c ∧ Rd D (.slice a rows.length c) (.l sz rows) := by
 cases hr with | u hr => obtain ⟨a, c, rfl, -⟩ := hr.shape; exact ⟨a, c, rfl, hr⟩
theorem Rp.c_inv (hr : Rp D ρ v (.c sz rows)) : ∃ a, v = .slice a rows.length rows.length ∧ Rd D (.slice a rows.length rows.length) (.l sz rows) := by
 cases hr with | c hr => have := hr.len.1; subst this; exact ⟨_, rfl, hr⟩
theorem Rp.f_inv {a c : List V} (hr : Rp D ρ v (.f g a c)) : ∃ xs ys, v = .func (.func g) xs.toArray ys.toArray ∧ RpL D ρ xs a ∧ RpL D ρ ys c := by cases hr; exact ⟨_, _, rfl, by assumption, by assumption⟩
theorem Rp.a_inv (hr : Rp D ρ v (.a l)) : ∃ vs, v = .agg vs.toArray ∧ RpC D ρ vs l := by cases hr; exact ⟨_, rfl, by assumption⟩
theorem Rp.t_inv (hr : Rp D ρ v (.t l)) : ∃ vs, v = .tuple vs.toArray ∧ RpL D ρ vs l := by cases hr; exact ⟨_, rfl, by assumption⟩
theorem Rp.ptr (hr : Rp D ρ v x) (hx : zoc x = true) : ∃ a, v = .pointer (some a) := by
 unfold zoc at hx
 split at hx <;> first | (cases hr; exact ⟨_, rfl⟩) | cases hx
theorem yp (hh : zfa P T o (fun u => u = v)) (w : World) : (execOp (ev T) o).run P w = .ok (.value v) w := by
 obtain ⟨u, rfl, hy⟩ := zti hh
 exact hy w
theorem zet {l r : Int} {A B : Prop} (hh : leK c l r A) (f : A → B) : leK c l r B := by
 cases c
 · exact ⟨hh.1, f hh.2⟩
 · exact f hh
theorem zha {k : IntKind} {n : Int} (hr : Rp D ρ v (.u (.i k n))) : v = .int k n := by cases hr with | u a => exact Rd.int_iff.1 a
theorem zne (hr : Rp D ρ v (.u (.b c))) : v = .bool c := by cases hr with | u a => exact Rd.bool_iff.1 a
theorem zu4 {s : ByteArray} (hr : Rp D ρ v (.u (.s s))) : v = .string s := by cases hr with | u a => exact Rd.str_iff.1 a
theorem u_nil (hr : Rp D ρ v (.u (.p none))) : v = .pointer none := by cases hr with | u a => cases a; rfl
theorem zcz (F : RpL D ρ T t) {x : Option Operand} {d i : Int} (hb : zs3 t x d = some i) : bnd T x d = some i := by
 unfold zs3 at hb
 unfold bnd
 split at hb
 · exact hb
 · rename_i x
   split at hb
   · rename_i k i' he
     have := zcf F x
     rw [he] at this
     simp only [zha this]; exact hb
   · cases hb
theorem bin_S {y : V} {a b : Value} {KS : V → Prop} (hs : binS P op S x y KS) (ha : Rp D ρ a x) (hb : Rp D ρ b y) : zue P op S a b fun v => KS (zs6 v) := by
 unfold binS at hs
 split at hs
 · rename_i a' b' h1 h2
   rw [conc_S h1 ha, conc_S h2 hb]; exact hs
 · split at hs
   · have := u_nil hb; subst this
     split at hs
     · rename_i e hu
       split at hs
       · rename_i p
         cases ha with
         | u hr =>
           cases hr with
           | pn => simp only [zue, hu]; exact hs
           | pp => simp only [zue, hu]; exact hs
       · obtain ⟨h1, h2⟩ := zaa hs
         unfold zoc at h1
         split at h1 <;> first | (cases ha <;> (simp only [zue, hu]; exact h2)) | cases h1
     · exact hs.elim
   · cases hb with
     | nm =>
       split at hs
       · rename_i k e hu
         split at hs
         · cases ha with | m hr => simp only [zue, hu]; exact hs
         · cases ha with | nm => simp only [zue, hu]; exact hs
         · exact hs.elim
       · exact hs.elim
   · exact hs.elim
theorem Own.some_of {E c : Nat} (x : Own D E sz a c rows ch) (h : rows ≠ []) : ∃ b, a = some ⟨b, 0, none⟩ := by
 cases x with
 | nil => exact absurd rfl h
 | row b => exact ⟨b, rfl⟩
theorem nilOf_S {r : Bool × Bool} (hs : nilOf m x = some r) (M : SAt D ρ m chs C h) (hv : Rp D ρ v x) : ∃ a n c, v = .slice a n c ∧ (a.isNone = true → r.1 = true) ∧ (a.isNone = false → r.2 = true) := by
 unfold nilOf at hs
 split at hs
 · cases hs; cases hv; exact ⟨_, _, _, rfl, fun _ => rfl, by simp⟩
 · rename_i sz rows
   cases hs
   obtain ⟨a, c, rfl, hr⟩ := hv.l_inv
   refine ⟨_, _, _, rfl, fun ha => ?_, fun _ => rfl⟩
   cases rows with
   | nil => rfl
   | cons r rows => obtain ⟨b, o, e, -⟩ := hr.at (i := 0) (r := r) rfl; rw [e] at ha; simp at ha
 · rename_i sz rows
   cases hs
   obtain ⟨a, rfl, hr⟩ := hv.c_inv
   refine ⟨_, _, _, rfl, fun ha => ?_, fun _ => rfl⟩
   cases rows with
   | nil => rfl
   | cons r rows => obtain ⟨b, o, e, -⟩ := hr.at (i := 0) (r := r) rfl; rw [e] at ha; simp at ha
 · rename_i b
   split at hs
   · rename_i E sz rows hm
     cases hs
     obtain ⟨L, hL, rfl⟩ := hv.w_inv
     obtain ⟨L', ch, g1, g2, g3⟩ := M.get (b := b) (by rw [hm]; simp)
     rw [hL] at g1; cases g1
     rw [hm] at g3
     cases g3 with
     | w own hn =>
       refine ⟨_, _, _, rfl, fun ha => ?_, fun _ => rfl⟩
       cases rows with
       | nil => rfl
       | cons r rows => obtain ⟨b', e⟩ := own.some_of (by simp); rw [e] at ha; simp at ha
   · cases hs
 · rename_i b sz l n c
   cases hs
   obtain ⟨L, a, cap, h1, h2, h3, h4, h5, h6, h7, rfl⟩ := hv.v_inv
   refine ⟨_, _, _, rfl, fun ha => ?_, fun _ => rfl⟩
   cases n with
   | zero => rfl
   | succ n => obtain ⟨p, q, -, e⟩ := h4 (by omega); rw [e] at ha; simp at ha
 · rename_i b o n
   cases hs
   obtain ⟨L, a, cap, h1, h2, h3, rfl⟩ := hv.sl_inv
   refine ⟨_, _, _, rfl, fun ha => ?_, fun _ => rfl⟩
   cases n with
   | zero => rfl
   | succ n => rw [h2 (by omega)] at ha; simp at ha
 · cases hs
theorem nilSl_S {y : V} {a b : Value} {r : Bool × Bool} {K : Value → Prop} (hs : nilSl P m S x y = some r) (M : SAt D ρ m chs C h) (ha : Rp D ρ a x) (hb : Rp D ρ b y) (hh : nilR op r K) : zue P op S a b K := by
 unfold nilSl at hs
 split at hs
 · split at hs
   · rename_i e hu
     cases hb
     obtain ⟨a', n, c, rfl, h1, h2⟩ := nilOf_S hs M ha
     simp only [zue, hu]
     obtain ⟨r1, r2⟩ := r
     simp only at h1 h2
     unfold nilR at hh
     cases hn : a'.isNone with
     | true =>
       have := h1 hn
       subst this
       cases r2 with
       | true => exact hh.1
       | false => exact hh
     | false =>
       have := h2 hn
       subst this
       cases r1 with
       | true => exact hh.2
       | false => exact hh
   · cases hs
 · cases hs
theorem zqq : ∀ (a b : List Int), eqI a b = decide (a = b)
 | [], [] => by simp [eqI]
 | [], _ :: _ => by simp [eqI]
 | _ :: _, [] => by simp [eqI]
 | a :: l, b :: r => by
   simp only [eqI, zqq l r]
   by_cases h1 : a = b <;> by_cases h2 : l = r <;> simp [h1, h2]
theorem zl4 : ∀ {l : List V} {r : List Int} {vs : List Value}, zt0 l = some r → RpC D ρ vs l → vs = r.map (Value.int .i64) ∧ r.length = wds l
 | [], r, vs, h, hr => by cases h; cases hr; exact ⟨rfl, rfl⟩
 | x :: l, r, vs, h, hr => by
   unfold zt0 at h
   split at h
   · rename_i e; cases e
   · rename_i n l' e
     cases e
     split at h
     · rename_i r' h'
       cases h
       cases hr with
       | cons a _ b =>
         obtain ⟨h1, h2⟩ := zl4 h' b
         exact ⟨by rw [zha a, h1]; rfl, by simp [wds, wd, h2]; omega⟩
     · cases h
   · rename_i w xs l' e
     cases e
     split at h
     · rename_i r' h'
       cases h
       cases hr with
       | cons _ hn _ => exact absurd rfl (hn _ _ _)
       | n hl b =>
         obtain ⟨h1, h2⟩ := zl4 h' b
         exact ⟨by rw [h1]; simp, by simp [wds, wd, h2, hl]⟩
     · cases h
   · cases h
theorem arrN_run {T : TypeId} (hk : arrN P T = some n) {a b : List Int} (h1 : a.length = n) (h2 : b.length = n) : (Op.equal T (mkV (.a a)) (mkV (.a b))).run P w = .ok (decide (a = b)) w := by
 unfold arrN at hk
 split at hk
 · split at hk
   · rename_i h; cases hk; exact znn h h1 h2
   · cases hk
 · rename_i fs hu
   cases hc : (flat P fs.toList 0 || isI P T) with
   | true => rw [hc] at hk; cases hk
   | false =>
     rw [hc] at hk
     simp only [z2e] at hc
     exact zvt hk hc.2 h1 h2
 · cases hk
theorem arrE_S {y : V} {a b : Value} {K : Value → Prop} {ox oy : Operand} (hs : arrE P S x y = some c) (ha : Rp D ρ a x) (hb : Rp D ρ b y) (h : zeb op c K) :
 ∃ v, K v ∧ ∀ w, (do eqGuard op S ox oy a b; binOp op S a b : Sem Value).run P w = .ok v w := by
 unfold arrE at hs
 split at hs
 · rename_i n xs ys hk
   split at hs
   · rename_i a' b' h1 h2
     cases hc : (zyw (wds xs) n && zyw (wds ys) n && !P.eqGuardType P.depth S) with
     | false => rw [hc] at hs; cases hs
     | true =>
       rw [hc] at hs
       cases hs
       simp only [zyy, zzt] at hc
       obtain ⟨vs, rfl, hx⟩ := ha.a_inv
       obtain ⟨us, rfl, hy⟩ := hb.a_inv
       obtain ⟨rfl, l1⟩ := zl4 h1 hx
       obtain ⟨rfl, l2⟩ := zl4 h2 hy
       have e1 : a'.length = n := by rw [l1]; exact zy1 hc.1.1
       have e2 : b'.length = n := by rw [l2]; exact zy1 hc.1.2
       have hq := hc.2
       have hg : ∀ (u v : Array Value) (w : World), (eqGuard op S ox oy (.agg u) (.agg v)).run P w = .ok () w := by
        intro u v w
        unfold eqGuard
        cases op <;> first | rfl | (simp [hq]; done) | (simp [hq]; rfl)
       obtain ⟨v, hv, hr⟩ := zgl (P := P) (T := S) (x := mkV (.a a')) (y := mkV (.a b')) (z := eqI a' b') (fun w => by rw [zqq]; exact arrN_run hk e1 e2) (.inr (.inr (.inr (.inr ⟨_, rfl⟩)))) (.inr (.inr (.inr (.inr ⟨_, rfl⟩)))) h
       refine ⟨v, hv, fun w => ?_⟩
       simp only [Sem.run_bind, hg, zza]
       exact hr w
   · cases hs
 · cases hs
theorem zyk (F : RpL D ρ T t) : ∀ {l : List Operand} {vs : List Value}, zyl t l = some vs → l.map (ev T) = vs
 | [], vs, hh => by cases hh; rfl
 | x :: l, vs, hh => by
   simp only [zyl] at hh
   split at hh
   · rename_i v vs' h1 h2
     cases hh
     rw [zzj, zyk F h2, zi9 h1 (zcf F x)]
   · cases hh
theorem zov : ∀ {n sz : Nat} {l : List U} {i : Nat} {r : List U}, (zub n sz l)[i]? = some r → i < n ∧ r = (l.drop (i * sz)).take sz
 | 0, sz, l, i, r, hh => by simp [zub] at hh
 | n + 1, sz, l, 0, r, hh => by simp [zub] at hh; exact ⟨by omega, by simp [hh]⟩
 | n + 1, sz, l, i + 1, r, hh => by
   simp only [zub, z2c] at hh
   obtain ⟨h1, h2⟩ := zov hh
   refine ⟨by omega, ?_⟩
   rw [h2, z08, zzy, Nat.add_comm sz]
theorem RdL.split (hr : RdL D vs us) (n : Nat) : RdL D (vs.take n) (us.take n) ∧ RdL D (vs.drop n) (us.drop n) := by
 induction n generalizing vs us with
 | zero => simp only [List.take_zero, z09]; exact ⟨.nil, hr⟩
 | succ n ih =>
   cases hr with
   | nil => simp only [z2q, List.drop_nil]; exact ⟨.nil, .nil⟩
   | cons a b => obtain ⟨h1, h2⟩ := ih b; exact ⟨.cons a h1, h2⟩
theorem zs8 (hz : zb9 P S = some zs) : ∃ i, P.info? S = some i ∧ i.size = zs.length := by
 unfold zb9 at hz
 split at hz
 · rename_i z hl; cases hz; exact (zef (zfv hl)).2.2
 · rename_i zs' hl; cases hz; obtain ⟨cs, h1, h2⟩ := zee hl; rw [← h2]; exact (zdg h1).2
 · cases hz
theorem part_S (hz : zb9 P S = some zs) {r : List U} (hr : RdL D vs us) {i : Nat} (hi : (i + 1) * zs.length ≤ us.length) (hd : r = (us.drop (i * zs.length)).take zs.length) {r' : List U}
 (hl : r'.length = zs.length) (hg : ∀ j u, r'[j]? = some u → r[0 + j]? = some u) : ∃ v, Rp D ρ v (oneA P S (r'.map .u)) ∧ ∀ w, (part S vs.toArray (i * zs.length)).run P w = .ok v w := by
 have hrl : r.length = zs.length := by
  rw [zzy] at hi
  rw [hd]; simp; omega
 have hrr : r' = r := by
  apply z2f (by rw [hl, hrl])
  intro j h1 h2
  have := hg j r'[j] (zy0 h1)
  rw [zze, zy0 h2] at this
  exact (Option.some.inj this).symm
 subst hrr
 have hv := ((hr.split (i * zs.length)).2.split zs.length).1
 rw [← hd] at hv
 generalize hvs : (vs.drop (i * zs.length)).take zs.length = v' at hv
 unfold zb9 at hz
 unfold oneA
 split at hz
 · rename_i z hS
   cases hz
   rw [hS]
   have hone : r'.length = 1 := hl
   obtain ⟨u, rfl⟩ := z20.1 hone
   cases hv with
   | cons a b =>
     rename_i v vs'
     cases b
     refine ⟨v, .u a, zvq (zfv hS) ?_⟩
     have : ((vs.drop (i * [z].length)).take [z].length)[0]? = some v := by rw [hvs]; rfl
     simpa using this
 · rename_i zs' hS
   cases hz
   rw [hS]
   obtain ⟨cs, h1, h2⟩ := zee hS
   refine ⟨.agg v'.toArray, ?_, fun w => ?_⟩
   · cases r' <;> exact .a (.ofU hv)
   · have hsp : vs = vs.take (i * zs.length) ++ (v' ++ (vs.drop (i * zs.length)).drop zs.length) := by rw [← hvs, z0h, z0h]
     have hlen : (vs.take (i * zs.length)).length = i * zs.length := by
      have := hr.len
      rw [zzy] at hi
      simp; omega
     have := zvp (P := P) h1 (p := vs.take (i * zs.length)) (vs := v') (s := (vs.drop (i * zs.length)).drop zs.length) (by rw [hv.len, hl, h2]) w
     rw [hlen, ← hsp] at this
     exact this
 · cases hz
theorem zsz (hc : zkt x = some xs) (hr : Rp D ρ v x) : RpC D ρ v.cells.toList xs := by
 cases hr with
 | a h => cases hc; exact h
 | u h =>
   cases hc
   have : v.cells.toList = [v] := by cases h <;> rfl
   rw [this]; exact .cons (.u h) (by simp) .nil
 | t => cases hc
 | z => cases hc
 | r h => cases hc; exact .cons (.r h) (by simp) .nil
 | e h1 h2 h3 h4 => cases hc; exact .cons (.e h1 h2 h3 h4) (by simp) .nil
 | g h1 h2 h3 => cases hc; exact .cons (.g h1 h2 h3) (by simp) .nil
 | q h1 h2 n => cases hc; exact .cons (.q h1 h2 n) (by simp) .nil
 | w h => cases hc; exact .cons (.w h) (by simp) .nil
 | c h => cases hc; exact .cons (.c h) (by simp) .nil
 | m h => cases hc; exact .cons (.m h) (by simp) .nil
 | nm => cases hc; exact .cons .nm (by simp) .nil
 | nl => cases hc; exact .cons .nl (by simp) .nil
 | f h1 h2 => cases hc; exact .cons (.f h1 h2) (by simp) .nil
 | y h => cases hc; exact .cons (.y h) (by simp) .nil
 | v h1 h2 h3 h4 h5 h6 h7 => cases hc; exact .cons (.v h1 h2 h3 h4 h5 h6 h7) (by simp) .nil
 | sl h1 h2 h3 => cases hc; exact .cons (.sl h1 h2 h3) (by simp) .nil
theorem zl9 {place : Nat → Option (Nat × Nat)} : ∀ {ps : List (Nat × V)} {pv : List (Nat × Value)} {l l' : List V} {vs : List Value}, zt7 place l ps = some l' → RpC D ρ vs l → pv.map (·.1) = ps.map (·.1) → RpL D ρ (pv.map (·.2)) (ps.map (·.2)) →
 ∃ vs', zi8 place vs pv = some vs' ∧ RpC D ρ vs' l'
 | [], pv, l, l', vs, hf, hr, h1, h2 => by
   cases pv with
   | nil => cases hf; exact ⟨vs, rfl, hr⟩
   | cons _ _ => simp at h1
 | (i, x) :: ps, pv, l, l', vs, hf, hr, h1, h2 => by
   cases pv with
   | nil => simp at h1
   | cons p pv =>
     obtain ⟨i', v⟩ := p
     simp only [zzj, List.cons.injEq] at h1
     obtain ⟨rfl, h1⟩ := h1
     cases h2 with
     | cons hv h2 =>
       simp only [zt7] at hf
       split at hf
       · rename_i o s xs hp hc
         have hcc := zsz hc hv
         cases hb : zyw (wds xs) s with
         | false => rw [hb] at hf; cases hf
         | true =>
           rw [hb] at hf
           simp only [cond_true] at hf
           split at hf
           · rename_i l1 hl1
             obtain ⟨g1, g2⟩ := zrs hcc hl1 hr
             obtain ⟨vs', g3, g4⟩ := zl9 hf g2 h1 h2
             refine ⟨vs', ?_, g4⟩
             have e1 : zyw v.cells.toList.length s = true := by rw [zpf hcc]; exact hb
             simp only [zi8, hp, e1, z1i g1, Bool.and_self, cond_true]
             exact g3
           · cases hf
       · cases hf
theorem zi7 : ∀ {l : List V} {ss : List Nat} {vs : List Value}, RpC D ρ vs l → RpC D ρ vs (fixN ss l)
 | [], ss, vs, hr => by cases ss <;> exact hr
 | x :: l, ss, vs, hr => by
   cases hr with
   | n hl b => cases ss <;> exact .n hl (zi7 b)
   | cons a n b =>
     cases ss with
     | nil => cases x <;> first | exact absurd rfl (n _ _ _) | exact .cons a n b
     | cons s ss =>
       cases x <;> first
        | exact absurd rfl (n _ _ _)
        | exact .cons a n (zi7 b)
        | (cases a; exact .cons .nl (by simp) (zi7 b))
theorem zsh : ∀ {w : Nat} {l r : List V} {xs : List Int} {vs : List Value}, zko w l = some (xs, r) → RpC D ρ vs l → ∃ s, vs = xs.map (.int .i64) ++ s ∧ xs.length = w ∧ RpC D ρ s r
 | 0, l, r, xs, vs, h, hr => by simp only [zko, Option.some.injEq, Prod.mk.injEq] at h; obtain ⟨rfl, rfl⟩ := h; exact ⟨vs, rfl, rfl, hr⟩
 | w + 1, [], r, xs, vs, h, hr => by simp [zko] at h
 | w + 1, x :: l, r, xs, vs, h, hr => by
   unfold zko at h
   split at h
   · rename_i heq; cases heq
   · rename_i w' y l' heq1 heq2
     cases heq1
     cases heq2
     split at h
     · rename_i xs' r' h2
       cases h
       cases hr with
       | cons a n b =>
         obtain ⟨s, rfl, h3, h4⟩ := zsh h2 b
         exact ⟨s, by rw [zha a]; rfl, by simp [h3], h4⟩
     · cases h
   · cases h
theorem zi5 : ∀ {ws : List Nat} {l : List V} {vs : List Value}, RpC D ρ vs l → RpC D ρ vs (zt2 ws l)
 | [], l, vs, hr => hr
 | _ :: _, [], vs, hr => hr
 | w :: ws, x :: l, vs, hr => by
   simp only [zt2]
   cases hb : zyw w 1 with
   | true =>
     simp only [cond_true]
     cases hr with
     | cons a n b => exact .cons a n (zi5 b)
     | n hl b => exact .n hl (zi5 b)
   | false =>
     simp only [cond_false]
     split
     · cases hr with
       | cons a n b => exact absurd rfl (n _ _ _)
       | n hl b => exact .n hl (zi5 b)
     · split
       · rename_i xs r h2
         obtain ⟨s, rfl, h3, h4⟩ := zsh h2 hr
         exact .n h3 (zi5 h4)
       · exact hr
theorem asD_S (hv : Rp D ρ v x) : Rp D ρ v (asD x) := by
 cases x <;> first | exact hv | (cases hv; exact .u (.nil _ _ _))
theorem asD_n (h : ∀ k w l, x ≠ .n k w l) : ∀ k w l, asD x ≠ .n k w l := by
 intro k w l
 cases x <;> first | exact h k w l | simp [asD]
theorem zsv : ∀ {l : List V} {vs : List Value}, RpC D ρ vs l → RpC D ρ vs (datL l)
 | _, _, .nil => .nil
 | _, _, .cons a n b => .cons (asD_S a) (asD_n n) (zsv b)
 | _, _, .n hl b => .n hl (zsv b)
theorem datV_S (hv : Rp D ρ v x) : Rp D ρ v (datV x) := by
 cases x <;> first | exact asD_S hv | (cases hv with | a h => exact .a (zsv h))
theorem zgk (hr : RpC D ρ vs l) : RpC D ρ vs (zjv P S l) := zi5 (zi7 hr)
theorem Rd.cap {c : Nat} (x : Rd D (.slice a n c) (.l sz rows)) : Rd D (.slice a n n) (.l sz rows) := by
 cases x with
 | nil => exact .nil _ _ _
 | row b o c arr T f rows sz v h1 h2 h3 h4 h5 => exact .row b o _ arr T f rows sz v h1 (zy9 _) h3 h4 h5
theorem Rd.part3 {c l r : Nat} (x : Rd D (.slice a n c) (.l sz rows)) (hl : l ≤ r) (hr : r ≤ n) : Rd D (.slice (slA a r l sz) (zhb r l) (zhb r l)) (.l sz ((rows.take r).drop l)) := by
 have h1 := (x.part (l := 0) (r := r) (zzv _) hr).cap
 have h2 := h1.part (l := l) (r := r) hl (zy9 _)
 rw [z09, List.take_take, Nat.min_self] at h2
 exact h2
theorem zn1 {kt : KT} {E : TypeId} {zv : V} (h : mapT P S = some (kt, zs, E, zv)) :
 ∃ K i z, P.underlying S = some (.map K E) ∧ zl0 P K = some kt ∧ zb9 P E = some zs ∧ P.info? E = some i ∧ i.zero = some z ∧ zv = zdf P E (ofV z) := by
 unfold mapT at h
 split at h
 · rename_i K E' hu
   split at h
   · rename_i kt' zs' z' h1 h2 h3
     simp only [Option.some.injEq, Prod.mk.injEq] at h
     obtain ⟨rfl, rfl, rfl, rfl⟩ := h
     cases hi : P.info? E' with
     | none => rw [hi] at h3; cases h3
     | some i => rw [hi] at h3; exact ⟨K, i, z', hu, h1, h2, rfl, h3, rfl⟩
   · cases h
 · cases h
theorem mkIs_S : ∀ {l : List V} {r : List Int} {vs : List Value}, mkIs l = some r → RpC D ρ vs l → vs = r.map (Value.int .i64)
 | [], r, vs, h, hr => by cases h; cases hr; rfl
 | x :: l, r, vs, h, hr => by
   unfold mkIs at h
   split at h
   · rename_i e
     cases e
   · rename_i n l' e
     cases e
     split at h
     · rename_i r' h'
       cases h
       cases hr with
       | cons a _ b => rw [zha a, mkIs_S h' b]; rfl
     · cases h
   · cases h
theorem zr3 {k : MK} (h : mkOf x = some k) (hr : Rp D ρ v x) : v = mkV k := by
 unfold mkOf at h
 split at h
 · cases h; exact zha hr
 · cases h; exact zu4 hr
 · split at h
   · rename_i l r hl
     cases h
     obtain ⟨vs, rfl, hc⟩ := hr.a_inv
     rw [mkIs_S hl hc]; rfl
   · cases h
 · cases h
theorem zfw {a b : KT} (h : ktEq a b = true) : a = b := by
 cases a <;> cases b <;> simp [ktEq] at h
 · rfl
 · rfl
 · rw [h]
theorem MRel.get {rows : List (MK × List U)} (hr : MRel D ag mv rows) (k : MK) :
 (zbl rows k = none ∧ zum mv k = none) ∨ ∃ us v vs, zbl rows k = some us ∧ zum mv k = some v ∧ RdL D vs us ∧ cond ag (v = .agg vs.toArray) (vs = [v]) ∧ ∃ p ∈ rows, p.2 = us := by
 induction hr with
 | nil => exact .inl ⟨rfl, rfl⟩
 | cons a b _ ih =>
   rename_i k' v us vs m rows _
   simp only [zbl, zum]
   by_cases hk : k' = k
   · simp only [hk, if_true]
     exact .inr ⟨us, v, vs, rfl, rfl, a, b, _, zzq, rfl⟩
   · simp only [hk, if_false]
     rcases ih with h | ⟨us', v', vs', h1, h2, h3, h4, p, h5, h6⟩
     · exact .inl h
     · exact .inr ⟨us', v', vs', h1, h2, h3, h4, p, zzo _ h5, h6⟩
theorem MRel.len {rows : List (MK × List U)} (hr : MRel D ag mv rows) : mv.length = rows.length := by
 induction hr with
 | nil => rfl
 | cons a b _ ih => simp [ih]
theorem oneA_S (hz : zb9 P S = some zs) (hl : us.length = zs.length) (hr : RdL D vs us) (hv : cond (isAg P S) (v = .agg vs.toArray) (vs = [v])) : Rp D ρ v (oneA P S (us.map .u)) := by
 unfold zb9 at hz
 unfold isAg at hv
 unfold oneA
 split at hz
 · rename_i z hS
   cases hz
   rw [hS] at hv ⊢
   simp only [cond_false] at hv
   subst hv
   cases hr with
   | cons a b => cases b; exact .u a
 · rename_i zs' hS
   cases hz
   rw [hS] at hv ⊢
   simp only [cond_true] at hv
   subst hv
   cases us <;> exact .a (.ofU hr)
 · cases hz
theorem look_S {k : V} {vx vk : Value} {ok : Bool} {KS : V → Prop} (hs : lookS P S x k ok m KS) (M : SAt D ρ m chs C h) (hx : Rp D ρ vx x) (hk : Rp D ρ vk k) {bs : List Nat} (hbs : ∀ b, b ∈ zae x → inL bs b = true) :
 ∃ v y, KS y ∧ Rp D ρ v y ∧ ∀ w, Hs D chs bs w → (Instr.lookup S vx vk ok).run P w = .ok v w := by
 unfold lookS at hs
 split at hs
 · rename_i kt zs E zv k' ht hk'
   obtain ⟨K, i, z, hT, hkt, hz, hi, hzz, rfl⟩ := zn1 ht
   obtain ⟨hhas, hs⟩ := zaa hs
   have hvk := zr3 hk' hk
   subst hvk
   have hnv : Rp D ρ z (zdf P E (ofV z)) := by
    have := ofV_S (D := D) (ρ := ρ) z
    unfold zdf
    split
    · rename_i l e; rw [e] at this; cases this with | a h => exact .a (zgk h)
    · rename_i s' e
      rw [e] at this
      split
      · cases this; exact .nl
      · exact this
    · exact this
   have hres : ∀ {v : Value} {y : V} (b : Bool), Rp D ρ v y → Rp D ρ (if ok then .tuple #[v, .bool b] else v) (lookR ok y b) := by
    intro v y b hr
    cases ok
    · exact hr
    · exact .t (vs := [v, .bool b]) (.cons hr (.cons (.u (.bool b)) .nil))
   clear hk hk'
   split at hs
   · rename_i b _
     split at hs
     · rename_i kt' sz ag rows hm
       obtain ⟨hc, hs2⟩ := zaa hs
       clear hs
       simp only [zyy, beq_iff_eq] at hc
       obtain ⟨⟨hc1, hc2⟩, hc3⟩ := hc
       obtain ⟨L, ch, g1, g2, g3⟩ := M.get (b := b) (by rw [hm]; simp)
       rw [hm] at g3
       cases zfw hc1
       have hsz := zy1 hc2
       subst hc3
       cases hx with
       | m hL =>
         rw [g1] at hL; cases hL
         cases g3 with
         | p I R hl =>
           rename_i es clk mv
           have hrun : ∀ w, Hs D chs bs w → (Instr.lookup S (.map (some L.b)) (mkV k') ok).run P w = .ok (if ok then .tuple #[(zum mv k').getD z, .bool (zum mv k').isSome] else (zum mv k').getD z) w :=
            fun w hw => run_look hT hkt hi hzz (hw _ _ (.inr ⟨b, _, hbs b (by simp [zae]), g2, by simp⟩)) I hhas ok
           rcases R.get k' with ⟨r1, r2⟩ | ⟨us, v, vs, r1, r2, r3, r4, p, r5, r6⟩
           · rw [r1] at hs2
             rw [r2] at hrun
             exact ⟨_, _, hs2, hres false hnv, hrun⟩
           · rw [r1] at hs2
             rw [r2] at hrun
             obtain ⟨us', l1, l2, hK⟩ := zex hs2
             have hul : us.length = zs.length := by rw [← r6, hl p r5, hsz]
             have : us' = us := by
              apply z2f (by rw [l1, hul])
              intro j h1 h2
              have := l2 j us'[j] (zy0 h1)
              rw [zze, zy0 h2] at this
              exact (Option.some.inj this).symm
             subst this
             exact ⟨_, _, hK, hres true (oneA_S hz l1 r3 r4), hrun⟩
     · exact hs.elim
   · cases hx
     exact ⟨_, _, hs, hres false hnv, fun w _ => zvr hT hkt hi hzz hhas ok⟩
   · exact hs.elim
 · exact hs.elim
theorem Rd.srcF {h0 : zaf} {c : Nat} (x : Rd D (.slice a n c) (.l sz rows)) (fz : ∀ b o, D b = some o → h0[b]? = some o) : Src D h0 sz a rows := by
 refine ⟨(x.shape).elim fun _ h => h.elim fun _ h => h.2.2, ?_⟩
 cases x with
 | nil => exact .inl rfl
 | row b o c arr T f rows sz v h1 h2 h3 h4 h5 => exact .inr ⟨b, o, v, rfl, fun i j r u hi hj => ⟨by rw [zaz (fz _ _ h1)]; exact h4 i j r u hi hj, h5 i j r u hi hj⟩⟩
theorem Own.src {E c : Nat} (x : Own D E sz a c rows ch) (hc : ∀ p ∈ ch, h[p.1]? = some p.2) : Src D h sz a rows := by
 cases x with
 | nil => exact ⟨by simp, .inl rfl⟩
 | row b c arr rows v h1 h2 h3 h4 h5 =>
   refine ⟨h3, .inr ⟨b, 0, v, rfl, fun i j r u hi hj => ⟨?_, h5 i j r u hi hj⟩⟩⟩
   rw [zaz (hc _ (zzx _)), zze]
   exact h4 i j r u hi hj
theorem Src.part {s l : Nat} {a' : Option Addr} (x : Src D h s a rows) (hl : l + n ≤ rows.length) (ha : 0 < n → ∃ p q, a = some ⟨p, q, none⟩ ∧ a' = some ⟨p, q + l * s, none⟩) : Src D h s a' ((rows.drop l).take n) := by
 have key : ∀ {i : Nat} {r : List U}, ((rows.drop l).take n)[i]? = some r → rows[l + i]? = some r := fun hi => by
  rw [z0l] at hi
  split at hi
  · rwa [z1d] at hi
  · cases hi
 refine ⟨fun r hr => x.1 r (z1s (z1r hr)), ?_⟩
 cases n with
 | zero => left; simp
 | succ n =>
   obtain ⟨p, q, rfl, rfl⟩ := ha (by omega)
   rcases x.2 with e | ⟨b, o, w, e, hw⟩
   · rw [e] at hl; simp at hl
   · cases e
     refine .inr ⟨p, q + l * s, fun i j => w (l + i) j, rfl, fun i j r u hi hj => ?_⟩
     have := hw (l + i) j r u (key hi) hj
     rw [z0j] at this
     rw [show q + l * s + i * s + j = q + (l * s + i * s) + j by omega]
     exact this
theorem srcS_W {h0 : zaf} {s : Nat} (hs : srcS m x = some (s, rows)) (M : SAt D ρ m chs C h) (hv : Rp D ρ v x) (fz : ∀ b o, D b = some o → h0[b]? = some o) (ow : ∀ b ch p, b ∈ zae x → chs[b]? = some ch → p ∈ ch → h0[p.1]? = some p.2) : ∃ a c, v = .slice a rows.length c ∧ Src D h0 s a rows := by
 unfold srcS at hs
 split at hs
 · cases hs; obtain ⟨a, c, rfl, hr⟩ := hv.l_inv; exact ⟨a, c, rfl, hr.srcF fz⟩
 · cases hs; obtain ⟨a, rfl, hr⟩ := hv.c_inv; exact ⟨a, _, rfl, hr.srcF fz⟩
 · rename_i b
   split at hs
   · rename_i E sz rows' hm
     cases hs
     obtain ⟨L, ch, h1, h2, h3⟩ := M.get (b := b) (by rw [hm]; simp)
     obtain ⟨L', h4, rfl⟩ := hv.w_inv
     rw [h1] at h4; cases h4
     rw [hm] at h3
     cases h3 with
     | w own hn => exact ⟨_, _, by rw [hn], own.src fun p hp => ow _ _ p (by simp [zae]) h2 hp⟩
   · cases hs
 · rename_i b sz l n c
   split at hs
   · rename_i E sz' rows' hm
     cases hb : zyw sz' sz with
     | false => rw [hb] at hs; cases hs
     | true =>
       rw [hb] at hs
       cases hs
       have := zy1 hb
       subst this
       obtain ⟨L, ch, h1, h2, h3⟩ := M.get (b := b) (by rw [hm]; simp)
       obtain ⟨L', a, cap, g1, g2, g3, g4, g5, g6, g7, rfl⟩ := hv.v_inv
       rw [h1] at g1; cases g1
       rw [hm] at h3
       cases h3 with
       | w own hn =>
         refine ⟨a, cap, ?_, (own.src fun p hp => ow _ _ p (by simp [zae]) h2 hp).part (by omega) g4⟩
         rw [zz1, z1j, Nat.min_eq_left (by omega)]
   · cases hs
 · cases hs
theorem srcS_S {s : Nat} (hs : srcS m x = some (s, rows)) (M : SAt D ρ m chs C h) (hv : Rp D ρ v x) : ∃ a c, v = .slice a rows.length c ∧ Src D h s a rows :=
 srcS_W hs M hv (fun b o hb => (M.st.fz b o hb).1) fun _ _ _ _ hc hp => M.own hc hp
theorem zqv : ∀ {rows : List (List U)} {ns : List Int}, zye rows = some ns → rows = ns.map fun n => [U.i .u8 n]
 | [], ns, h => by cases h; rfl
 | r :: l, ns, h => by
   unfold zye at h
   split at h
   · rename_i heq; cases heq
   · rename_i n l' heq
     cases heq
     split at h
     · rename_i r' hr
       cases h
       rw [zzj, zqv hr]
     · cases h
   · cases h
theorem zs2 {c : Nat} {ns : List Int} (hrows : rows = ns.map fun n => [U.i .u8 n]) (hs : Src D w.heap 1 a rows) : (Conv.bytesToString (.slice a rows.length c)).run P w = .ok (.string (zva ns)) w := by
 obtain ⟨-, hsrc⟩ := hs
 cases a with
 | none =>
   rcases hsrc with h0 | ⟨b, o, f, h0, -⟩
   · rw [hrows] at h0
     have : ns = [] := by cases ns with | nil => rfl | cons n l => simp at h0
     subst this; rfl
   · cases h0
 | some ad =>
   refine run_bytesToString w ad _ c ns ?_
   have hl : rows.length = (ns.map (Value.int .u8)).length := by rw [hrows]; simp
   rw [hl]
   refine run_loadCells_list w ad _ fun j v hj => ?_
   rw [zy5] at hj
   obtain ⟨n, hn, rfl⟩ := z0e.1 hj
   have hr : rows[j]? = some [U.i .u8 n] := by rw [hrows, zy5, hn]; rfl
   rcases hsrc with h0 | ⟨b, o, f, h0, hc⟩
   · rw [h0] at hr; simp at hr
   · cases h0
     obtain ⟨g1, g2⟩ := hc j 0 _ _ hr rfl
     rw [Rd.int_iff.1 g2, Nat.mul_one, z0y] at g1
     rw [zay]
     exact g1
theorem view_S {dst : Option Tmp} {x : Operand} {lo hi mx : Option Operand} {pos : String} {after : Array Edge} {guard : Option (Nat × Bool)} {l : Nat} {KS : V → Prop} (F : RpL D ρ T t) (hu : P.underlying S = some (.slice e)) (hs : viewS P t e lo hi mx b sz l n c KS) (hx : Rp D ρ (ev T x) (.v b sz l n c)) :
 ∃ v y, KS y ∧ Rp D ρ v y ∧ ∀ w, znt ⟨dst, .slice S x lo hi mx, ty, pos, after, guard⟩ = true ∨ Hs D chs (zk8 t ⟨dst, .slice S x lo hi mx, ty, pos, after, guard⟩) w → (execOp (ev T) ⟨dst, .slice S x lo hi mx, ty, pos, after, guard⟩).run P w = .ok (.value v) w := by
 unfold viewS at hs
 obtain ⟨hc, hs⟩ := zaa hs
 simp only [zyy, zzt] at hc
 have hse := zy1 hc.1
 subst hse
 have hne : zao P e ≠ 0 := fun h0 => by rw [h0] at hc; simp at hc
 have hnz : ∀ {A : Prop}, A → nz (zao P e) A := fun hA => by
  unfold nz
  rw [show zyw (zao P e) 0 = false from hc.2]; exact hA
 obtain ⟨L, a, cap, g1, g2, g3, g4, g5, g6, g7, hv⟩ := hx.v_inv
 -- the part from lo on, of r - lo elements, with room up to k
 have part : ∀ {l' r k : Nat} {c' : Bool}, l' ≤ r → r ≤ n → r ≤ k → k ≤ cap → (c' = true → k = r) → (c' = false → l' = 0 → l = 0 → k = L.c) → Rp D ρ (.slice (slA a k l' (zao P e)) (zhb r l') (zhb k l')) (.v b (zao P e) (l + l') (r - l') c') := by
  intro l' r k c' h1 h2 h2k h3 h4 h5
  have e1 : ∀ a b : Nat, zhb a b = a - b := fun a b => by
   unfold zhb; cases b <;> rfl
  rw [e1, e1]
  have e2 : l' = 0 → slA a k l' (zao P e) = a := fun h0 => by subst h0; rfl
  refine .v g1 (by omega) (fun h0 => ?_) (fun h0 => ?_) (by omega) (fun h0 => by have := h4 h0; omega) (fun h0 h6 => ?_)
  · rw [e2 (by omega)]; exact g3 (by omega)
  · obtain ⟨p, q, hA, ha⟩ := g4 (by omega)
    refine ⟨p, q, hA, ?_⟩
    by_cases hl : l' = 0
    · rw [e2 hl, ha, hl, z0y]
    · have hkl : ¬ k = l' := by omega
      unfold slA
      have hb : zyw l' 0 = false := by cases l' <;> first | exact absurd rfl hl | rfl
      rw [hb]
      simp only [cond_false, if_neg hkl, ha, z0g]
      rw [z0j, z0t]
  · have := h5 h0 (by omega) (by omega); omega
 split at hs
 · rename_i l' r hl hr _
   obtain ⟨h0, h1, h2, hK⟩ := zbw (zcz F hl) hs
   have hrn : bnd T hi (n : Int) = some r := zcz F hr
   have hK' : KS (.v b (zao P e) (l + l'.toNat) (r.toNat - l'.toNat) c) ∧ (c = true → r = n) := by
    unfold ltK at hK
    cases c with
    | true => exact ⟨hK.2, fun _ => hK.1⟩
    | false => exact ⟨hK, by simp⟩
   refine ⟨_, _, hK'.1, part (l' := l'.toNat) (r := r.toNat) (k := cap) (by omega) (by omega) (by omega) (zy9 _) (fun h => ?_) (fun h _ h6 => g7 h h6), fun w _ => yp ?_ w⟩
   · have := g6 h; have := hK'.2 h; omega
   · simp only [zfa, hu, hv, zcz F hl, hrn]
     exact zet hs fun hh => ⟨hh.1, by omega, hnz trivial⟩
 · rename_i mx' l' r hl hr _
   split at hs
   · rename_i k kk hm
     obtain ⟨hhi, hs3⟩ := zaa hs
     obtain ⟨h0, h1, h2, h3, hK⟩ := zbw (zcz F hl) hs3
     subst h3
     have hmx : bnd T (some mx') 0 = some kk := zcz F (by simp [zs3, hm])
     refine ⟨_, _, hK, part (l' := l'.toNat) (r := kk.toNat) (k := kk.toNat) (by omega) (by omega) (zy9 _) (by omega) (fun _ => rfl) (by simp), fun w _ => yp ?_ w⟩
     simp only [zfa, hu, hv, zcz F hl, zcz F hr, hmx, hhi, cond_true]
     exact zet hs3 fun hh => ⟨hh.1, zzk _, by omega, hnz trivial⟩
   · exact hs.elim
 · exact hs.elim
theorem zv8 {KS : V → Prop} (hs : zro P t m o KS) (M : SAt D ρ m chs C h) (F : RpL D ρ T t) :
 ∃ v x, KS x ∧ Rp D ρ v x ∧ ∀ w, znt o = true ∨ Hs D chs (zk8 t o) w → (execOp (ev T) o).run P w = .ok (.value v) w := by
 obtain ⟨dst, op, ty, pos, after, guard⟩ := o
 cases op <;> simp only [zro] at hs
 case move x => exact ⟨_, _, hs, zcf F x, fun w _ => rfl⟩
 case assign x => exact ⟨_, _, hs, zcf F x, fun w _ => rfl⟩
 case pick c a b =>
  unfold pickS at hs
  have hc := zcf F c
  split at hs
  · rename_i c' he
    rw [he] at hc
    have hc := zne hc
    have ha := zcf F a
    have hb := zcf F b
    split at hs
    · rename_i x y h1 h2
      rw [h1] at ha; rw [h2] at hb
      refine ⟨.bool (cond c' x y), _, hs, .u (.bool _), fun w _ => ?_⟩
      simp only [execOp, hc, zne ha, zne hb]
      cases c' <;> rfl
    · cases c'
      · exact ⟨_, _, hs, hb, fun w _ => by simp [execOp, hc, asBool]⟩
      · exact ⟨_, _, hs, ha, fun w _ => by simp [execOp, hc, asBool]⟩
  · exact hs.elim
 case nilCheck x =>
  have hx := zcf F x
  split at hs
  · rename_i p he
    rw [he] at hx
    obtain ⟨c, rfl, hK⟩ := zlo hs
    obtain ⟨p, o, hr, hv⟩ := hx.p_inv
    exact ⟨_, _, hK, .q (o' := o) hr rfl 0, fun w _ => by simp [execOp, hv]⟩
  · rename_i g a c he
    rw [he] at hx
    obtain ⟨xs, ys, hv, -, -⟩ := hx.f_inv
    exact ⟨_, _, hs, hx, fun w _ => by simp [execOp, hv]⟩
  · obtain ⟨h1, hK⟩ := zaa hs
    refine ⟨_, _, hK, hx, fun w _ => ?_⟩
    have := hx.ptr h1
    obtain ⟨a, ha⟩ := this
    simp [execOp, ha]
 case binOp op' S x y yt =>
  split at hs
  · rename_i r hr0
    obtain ⟨v, hv, hr⟩ := zjh (x := x) (y := y) (nilSl_S hr0 M (zcf F x) (zcf F y) hs)
    exact ⟨v, _, hv, zjj v, fun w _ => by
     have := hr w
     simp only [execOp]
     rw [Sem.run_bind, this]
     rfl⟩
  split at hs
  · rename_i c hc
    obtain ⟨v, hv, hr⟩ := arrE_S (ox := x) (oy := y) hc (zcf F x) (zcf F y) hs
    exact ⟨v, _, hv, zjj v, fun w _ => by
     have := hr w
     simp only [execOp]
     rw [Sem.run_bind, this]
     rfl⟩
  · obtain ⟨v, hv, hr⟩ := zjh (x := x) (y := y) (bin_S hs (zcf F x) (zcf F y))
    exact ⟨v, _, hv, zjj v, fun w _ => by
     have := hr w
     simp only [execOp]
     rw [Sem.run_bind, this]
     rfl⟩
 case unOp op' S x =>
  split at hs
  · rename_i a he
    obtain ⟨v, hv, hr⟩ := XWp.sound hs
    refine ⟨v, _, hv, zjj v, fun w _ => ?_⟩
    simp only [execOp, zi9 he (zcf F x)]
    rw [Sem.run_bind, hr w]; rfl
  · exact hs.elim
 case convert s d x =>
  split at hs
  · rename_i a he
    obtain ⟨v, hv, hr⟩ := XWp.sound hs
    refine ⟨v, _, hv, zjj v, fun w _ => ?_⟩
    simp only [execOp, zi9 he (zcf F x)]
    rw [Sem.run_bind, hr w]; rfl
  · split at hs
    · rename_i zz hz
      unfold strR at hz
      split at hz
      · rename_i e hA hB
        have h1 : P.underlying s = some (.slice e) := by assumption
        have h2 : P.underlying d = some .string := by assumption
        split at hz
        · rename_i rows h4 h5
          split at hz
          · rename_i ns hns
            cases hz
            refine ⟨.string (zva ns), _, hs, .u (.str _), fun w hw => ?_⟩
            have hw := hw.resolve_left (by simp [znt])
            obtain ⟨a, c, hv, hsrc⟩ := srcS_W (h0 := w.heap) h5 M (zcf F x) (fun b o hb => hw _ _ (.inl hb)) fun b ch p hb hc hp => hw _ _ (.inr ⟨b, ch, by rw [inL_iff]; simp [zk8, Op.operands, zag, hb], hc, hp⟩)
            simp only [execOp, hv]
            rw [Sem.run_bind, run_convert_bytes_string w s d e a _ _ h1 h4 h2, zs2 (zqv hns) hsrc]
            rfl
          · cases hz
        · cases hz
      · cases hz
    · exact hs.elim
 case makeFunc fn a c =>
  cases fn with
  | func g =>
    refine ⟨_, _, hs, .f (zqp F a.toList) (zqp F c.toList), fun w _ => ?_⟩
    have e : ∀ (l : Array Operand), l.map (ev T) = (l.toList.map (ev T)).toArray := fun l => by cases l; simp
    simp only [execOp, Instr.makeFunc, e]
    rfl
  | _ => exact hs.elim
 case fieldAddr S x f =>
  split at hs
  · rename_i fs hu
    split at hs
    · rename_i fd hfd
      obtain ⟨hz, hs⟩ := zb2 hs
      obtain ⟨i, hi, his⟩ := zbk hz
      have run : ∀ {b o : Nat} (w : World), ev T x = .pointer (some ⟨b, o, none⟩) → (execOp (ev T) ⟨dst, .fieldAddr S x f, ty, pos, after, guard⟩).run P w = .ok (.value (.pointer (some ⟨b, o + fd.offset, none⟩))) w := fun w ha => by
       simp [execOp, Instr.fieldAt, ha, run_underlying hu, hfd, Instr.sureAddr, fieldPlace, zak hi, his, hz, zay]
      have hx := zcf F x
      unfold ptrAdd at hs
      split at hs
      · rename_i b o he
        rw [he] at hx
        obtain ⟨L, h1, hv⟩ := hx.r_inv
        rw [zda] at hs
        exact ⟨_, _, hs, .r h1, fun w _ => run w hv⟩
      · rename_i b sz k o he
        rw [he] at hx
        obtain ⟨L, p, q, h1, h2, h3, h4, hv⟩ := hx.e_inv
        rw [zda] at hs
        exact ⟨_, _, hs, .e h1 h2 h3 h4, fun w _ => by rw [run w hv, z0t]⟩
      · rename_i c o he
        rw [he] at hx
        obtain ⟨p, o', h1, hv⟩ := hx.q_inv
        rw [zda] at hs
        exact ⟨_, _, hs, .q h1 rfl _, fun w _ => by rw [run w hv, z0t]⟩
      · rename_i p he
        rw [he] at hx
        obtain ⟨c, rfl, hK⟩ := zlo hs
        obtain ⟨p, o, h1, hv⟩ := hx.p_inv
        exact ⟨_, _, hK, .q h1 rfl _, fun w _ => run w hv⟩
      · exact hs.elim
    · exact hs.elim
  · exact hs.elim
 case field S x f =>
  have hx := zcf F x
  split at hs
  · rename_i fs l hu he
    rw [he] at hx
    split at hs
    · rename_i fd hfd
      obtain ⟨vs, hv, hc⟩ := hx.a_inv
      · split at hs
        · rename_i z v r hS hd
          obtain ⟨hk, hK⟩ := zaa hs
          obtain ⟨p, s, rfl, hp, hr⟩ := zcu hd hc
          cases hr with
          | @cons vv _ vvs _ a n b =>
            refine ⟨_, _, hK, a, fun w _ => ?_⟩
            simp only [execOp, Instr.field, hv, asAgg, run_underlying hu, hfd, Sem.run_bind, zza, Sem.run_pure]
            rw [zvq (zfv hS) (v := vv) (by simp [← hp]) w]
            rfl
          | n hl b => simp [shOk] at hk
        · rename_i zs r hS hd
          split at hs
          · rename_i vs' hv'
            obtain ⟨p, s, rfl, hp, hr⟩ := zcu hd hc
            obtain ⟨p2, s2, rfl, hp2, hr2⟩ := zlh hv' hr
            obtain ⟨cs, h1, h2⟩ := zee hS
            refine ⟨_, _, hs, .a hr2, fun w _ => ?_⟩
            simp only [execOp, Instr.field, hv, asAgg, run_underlying hu, hfd, Sem.run_bind, zza, Sem.run_pure]
            rw [← hp, zvp h1 (by rw [hp2, h2]) w]
            rfl
          · exact hs.elim
        · exact hs.elim
    · exact hs.elim
  · exact hs.elim
 case indexAddr S x i =>
  have hx := asD_S (zcf F x)
  have hi := zcf F i
  split at hs
  · rename_i k z hei
    rw [hei] at hi
    have hi := zha hi
    split at hs
    · rename_i e s rows hu he
      rw [he] at hx
      obtain ⟨hc, hs2⟩ := zaa hs
      simp only [zyy, zzt] at hc
      have hse := zy1 hc.1
      subst hse
      obtain ⟨h0, r, hr, hK⟩ := zdx hs2
      have hne : zao P e ≠ 0 := fun h0 => by rw [h0] at hc; simp at hc
      obtain ⟨a, c, hv, hrd⟩ := hx.l_inv
      · obtain ⟨b, o, ha, hpp, -⟩ := hrd.at hr
        have hlt := (zyz.1 hr).1
        exact ⟨_, _, hK, .q hpp rfl 0, fun w _ => by simp [execOp, hv, hi, zbo hu h0 (show z < (rows.length : Int) by omega) ha hne]⟩
    · rename_i e s rows hu he
      rw [he] at hx
      obtain ⟨hc, hs2⟩ := zaa hs
      simp only [zyy, zzt] at hc
      have hse := zy1 hc.1
      subst hse
      obtain ⟨h0, r, hr, hK⟩ := zdx hs2
      have hne : zao P e ≠ 0 := fun h0 => by rw [h0] at hc; simp at hc
      obtain ⟨a, hv, hrd⟩ := hx.c_inv
      · obtain ⟨b, o, ha, hpp, -⟩ := hrd.at hr
        have hlt := (zyz.1 hr).1
        exact ⟨_, _, hK, .q hpp rfl 0, fun w _ => by simp [execOp, hv, hi, zbo hu h0 (show z < (rows.length : Int) by omega) ha hne]⟩
    · rename_i e b hu he
      rw [he] at hx
      split at hs
      · rename_i E sz rows hm
        obtain ⟨hc, h0, h1, hK⟩ := zaa hs
        simp only [zyy, zzt] at hc
        have hse := zy1 hc.1
        subst hse
        have hne : zao P e ≠ 0 := fun h0 => by rw [h0] at hc; simp at hc
        obtain ⟨L, ch, g1, g2, g3⟩ := M.get (b := b) (by rw [hm]; simp)
        rw [hm] at g3
        obtain ⟨L', hL, hv⟩ := hx.w_inv
        · rw [g1] at hL; cases hL
          cases g3 with
          | w own hn =>
            have : ∃ p q, L.a = some ⟨p, q, none⟩ := by
             generalize L.a = A, L.c = c at own
             cases own with
             | nil => simp at h1; omega
             | row => exact ⟨_, _, rfl⟩
            obtain ⟨p, q, hA⟩ := this
            refine ⟨_, _, hK, .e g1 hA h0 (by rw [hn]; exact h1), fun w _ => ?_⟩
            simp [execOp, hv, hi, zbo hu h0 (show z < (L.n : Int) by omega) hA hne]
      · rename_i E sz n l hm
        obtain ⟨hc, h0, h1, hK⟩ := zaa hs
        simp only [zyy, zzt] at hc
        have hse := zy1 hc.1
        subst hse
        have hne : zao P e ≠ 0 := fun h0 => by rw [h0] at hc; simp at hc
        obtain ⟨L, ch, g1, g2, g3⟩ := M.get (b := b) (by rw [hm]; simp)
        rw [hm] at g3
        obtain ⟨L', hL, hv⟩ := hx.w_inv
        · rw [g1] at hL; cases hL
          cases g3 with
          | cw hA hn hcc hl h5 h6 =>
            refine ⟨_, _, hK, .e g1 hA h0 (by rw [hn]; exact h1), fun w _ => ?_⟩
            simp [execOp, hv, hi, zbo hu h0 (show z < (L.n : Int) by omega) hA hne]
      · exact hs.elim
    · rename_i e b sz l n c hu he
      rw [he] at hx
      obtain ⟨hc, h0, h1, hK⟩ := zaa hs
      simp only [zyy, zzt] at hc
      have hse := zy1 hc.1
      subst hse
      have hne : zao P e ≠ 0 := fun h0 => by rw [h0] at hc; simp at hc
      obtain ⟨L, a, cap, g1, g2, g3, g4, g5, g6, g7, hv⟩ := hx.v_inv
      obtain ⟨p, q, hA, ha⟩ := g4 (by omega)
      refine ⟨_, _, hK, .e g1 hA (by omega) (by omega), fun w _ => ?_⟩
      have e1 : ((l : Int) + z).toNat = l + z.toNat := by omega
      simp [execOp, hv, hi, zbo hu h0 (show z < (n : Int) by omega) ha hne, e1, z0j, z0t]
    · rename_i e b o n hu he
      rw [he] at hx
      obtain ⟨hne, hs⟩ := zb2 hs
      obtain ⟨j, rfl, hj, hK⟩ := zi2 hs
      obtain ⟨L, a, cap, g1, g2, g3, hv⟩ := hx.sl_inv
      refine ⟨_, _, hK, .r g1, fun w _ => ?_⟩
      have := zbo (P := P) (k := k) (c := cap) (z := (Int.ofNat j)) hu (z1h j) (show (Int.ofNat j) < (n : Int) from z2s.2 hj) (g2 (by omega)) hne w
      simp only [execOp, hv, hi]
      rw [Sem.run_bind, this]
      rfl
    · rename_i n e b sz k' o hu he
      rw [he] at hx
      obtain ⟨hne, hs⟩ := zb2 hs
      obtain ⟨j, rfl, this, hK⟩ := zi2 hs
      obtain ⟨L, p, q, g1, g2, g3, g4, hv⟩ := hx.e_inv
      refine ⟨_, _, hK, .e g1 g2 g3 g4, fun w _ => ?_⟩
      have := za8 (P := P) (k := k) (z := (Int.ofNat j)) hu (z1h j) (z2s.2 this) (a := some ⟨p, q + k'.toNat * sz + o, none⟩) rfl hne w
      simp only [execOp, hv, hi]
      rw [Sem.run_bind, this]
      simp [z0t]
    · rename_i n e b o hu he
      rw [he] at hx
      split at hs
      · rename_i cells hm
        obtain ⟨L, ch, g1, g2, g3⟩ := M.get (b := b) (by rw [hm]; simp)
        rw [hm] at g3
        obtain ⟨L', hL, hv⟩ := hx.r_inv
        · rw [g1] at hL; cases hL
          split at hs
          · rename_i k' w' l r hd
            obtain ⟨hc, h0, h1, hK⟩ := zaa hs
            simp only [zyy] at hc
            have e1 := zy1 hc.1
            have e2 := zy1 hc.2
            refine ⟨_, _, hK, .g g1 h0 (by omega), fun w _ => ?_⟩
            simp [execOp, hv, hi, za8 hu h0 h1 rfl (show zao P e ≠ 0 by omega), e2]
          · split at hs
            · rename_i j _
              obtain ⟨hc, hs⟩ := zaa hs
              obtain ⟨hne, hK⟩ := zb2 hs
              have := zz0 hc
              refine ⟨_, _, hK, .r g1, fun w _ => ?_⟩
              have := za8 (P := P) (k := k) (z := (Int.ofNat j)) hu (z1h j) (z2s.2 this) (a := some ⟨L.b, o, none⟩) rfl hne w
              simp only [execOp, hv, hi]
              rw [Sem.run_bind, this]
              rfl
            · exact hs.elim
          · exact hs.elim
      · exact hs.elim
    · rename_i n e c o hu he
      rw [he] at hx
      obtain ⟨hne, hs⟩ := zb2 hs
      obtain ⟨j, rfl, this, hK⟩ := zi2 hs
      obtain ⟨p, o2, hrd, hv⟩ := hx.q_inv
      refine ⟨_, _, hK, .q hrd rfl _, fun w _ => ?_⟩
      have := za8 (P := P) (k := k) (z := (Int.ofNat j)) hu (z1h j) (z2s.2 this) (a := some ⟨p, o2 + o, none⟩) rfl hne w
      simp only [execOp, hv, hi]
      rw [Sem.run_bind, this]
      simp [z0t]
    · exact hs.elim
  · exact hs.elim
 case index S x i =>
  have hx := zcf F x
  have hi := zcf F i
  split at hs
  · rename_i k z hei
    rw [hei] at hi
    have hi := zha hi
    split at hs
    · rename_i s hu he
      rw [he] at hx
      obtain ⟨h0, h1, hK⟩ := hs
      refine ⟨_, _, hK, .u (.int _ _), fun w _ => yp ?_ w⟩
      simp only [zfa, hu, zu4 hx, hi]
      exact ⟨h0, h1, trivial⟩
    · rename_i n e l hu he
      rw [he] at hx
      split at hs
      · rename_i zs us hz hcu
        obtain ⟨hc, hs⟩ := zaa hs
        have hn := zy1 hc
        obtain ⟨h0, r, hr, hs⟩ := zdx hs
        obtain ⟨r', hl, hg, hK⟩ := zex hs
        obtain ⟨vs, hv, hcc⟩ := hx.a_inv
        · have hrd := RpC.toU hcu hcc
          obtain ⟨hlt, hd⟩ := zov hr
          have hb : (z.toNat + 1) * zs.length ≤ us.length := by rw [hn]; exact z0k _ (by omega)
          obtain ⟨v, hv1, hrun⟩ := part_S (P := P) (ρ := ρ) hz hrd hb hd hl hg
          obtain ⟨inf, hinf, hsz⟩ := zs8 hz
          refine ⟨v, _, hK, hv1, fun w _ => ?_⟩
          simp only [execOp, Instr.index, hv, hi, asIntOf, Sem.run_bind, Sem.run_pure, zza, run_underlying hu]
          rw [if_pos ⟨h0, by omega⟩]
          simp only [Sem.run_bind, zak hinf, zza, hsz, hrun w]
      · exact hs.elim
    · exact hs.elim
  · exact hs.elim
 case extract x i =>
  have hx := zcf F x
  split at hs
  · rename_i l he
    rw [he] at hx
    obtain ⟨hc, hK⟩ := zaa hs
    have := zz0 hc
    obtain ⟨vs, hv, hl⟩ := hx.t_inv
    have hlt : i < vs.length := by rw [hl.len']; omega
    exact ⟨vs[i], _, hK, hl.at (zy0 hlt), fun w _ => by simp [execOp, Instr.extract, hv, hlt]⟩
  · exact hs.elim
 case build S ps =>
  have hps : RpL D ρ ((ps.toList.map fun p => (p.1, ev T p.2)).map (·.2)) ((ps.toList.map fun p => (p.1, evS t p.2)).map (·.2)) := by
   have h := zqp F (ps.toList.map (·.2)); rw [zz9, zz9] at h; rw [zz9, zz9]; exact h
  have hpm : (ps.toList.map fun p => (p.1, ev T p.2)).map (·.1) = (ps.toList.map fun p => (p.1, evS t p.2)).map (·.1) := by simp [zz9, Function.comp_def]
  have hpa : (ps.map fun (x : Nat × Operand) => (x.1, ev T x.2)).toList = ps.toList.map fun p => (p.1, ev T p.2) := by simp
  split at hs
  · rename_i inf fs hi hu
    split at hs
    · rename_i cs hz
      obtain ⟨hl, hs⟩ := zaa hs
      split at hs
      · rename_i l hf
        obtain ⟨vs', hf', hr⟩ := zl9 hf (zgk (zfb cs.toList)) hpm hps
        refine ⟨_, _, hs, .a (zgk hr), fun w _ => yp ?_ w⟩
        simp only [zfa, hu, hi, hz, hl, cond_true, hf']
      · exact hs.elim
    · exact hs.elim
  · rename_i inf n e hi hu
    split at hs
    · rename_i cs hz
      obtain ⟨hne, hs⟩ := zb2 hs
      split at hs
      · rename_i l hf
        obtain ⟨vs', hf', hr⟩ := zl9 hf (zi7 (zfb cs.toList)) hpm hps
        refine ⟨_, _, hs, .a (zgk hr), fun w _ => ?_⟩
        obtain ⟨i2, hi2, his2⟩ := zbk hne
        have hzero : (zeroValue S).run P w = .ok (.agg cs) w := by simp [zeroValue, run_typeInfo w hi, hz]
        have hfill := zf3 hf'
        simp only [z0n] at hfill
        simp only [execOp, Instr.build, Sem.run_bind, hzero, zza, run_underlying hu, zak hi2, his2]
        show Result.andThen (Sem.run P (match Instr.fill (fun i => some (i * zao P e, zao P e)) cs (ps.map fun (x : Nat × Operand) => (x.1, ev T x.2)).toList with
         | some cells => pure (Value.agg cells) | _ => stuck "build: a part of the wrong size") w) _ = _
        rw [hpa, hfill]
        rfl
      · exact hs.elim
    · exact hs.elim
  · exact hs.elim
 case slice S x lo hi mx =>
  have hx := asD_S (zcf F x)
  split at hs
  · rename_i s hu he
    rw [he] at hx
    split at hs
    · rename_i l r hl hr
      have key := zet (B := l ≤ r ∧ r ≤ s.size ∧ True) hs fun hh => ⟨hh.1, hh.2.1, trivial⟩
      refine ⟨_, _, (zbw (zcz F hl) hs).2.2.2, .u (.str _), fun w _ => yp ?_ w⟩
      simp only [zfa, hu, zu4 hx, zcz F hl, zcz F hr]
      exact key
    · exact hs.elim
  · rename_i e s rows hu he
    rw [he] at hx
    obtain ⟨hc, hs2⟩ := zaa hs
    simp only [zyy, zzt] at hc
    have hse := zy1 hc.1
    subst hse
    have hne : zao P e ≠ 0 := fun h0 => by rw [h0] at hc; simp at hc
    have hnz : ∀ {A : Prop}, A → nz (zao P e) A := fun hA => by
     unfold nz
     rw [show zyw (zao P e) 0 = false from hc.2]; exact hA
    obtain ⟨a, c, hv, hrd⟩ := hx.l_inv
    have hcap := hrd.len.2
    split at hs2
    · rename_i l r hl hr
      obtain ⟨h0, h1, h2, hK⟩ := zbw (zcz F hl) hs2
      have hpart := Rd.part hrd (l := l.toNat) (r := r.toNat) (by omega) (by omega)
      refine ⟨_, _, hK, .u hpart, fun w _ => yp ?_ w⟩
      simp only [zfa, hu, hv, zcz F hl, zcz F hr]
      exact zet hs2 fun hh => ⟨hh.1, by omega, hnz trivial⟩
    · rename_i mx l r hl hr
      split at hs2
      · rename_i k kk hm
        obtain ⟨hhi, hs3⟩ := zaa hs2
        obtain ⟨h0, h1, h2, h3, hK⟩ := zbw (zcz F hl) hs3
        subst h3
        have hmx : bnd T (some mx) 0 = some kk := zcz F (by simp [zs3, hm])
        refine ⟨_, _, hK, .c (a := slA a kk.toNat l.toNat (zao P e)) (n := zhb kk.toNat l.toNat) ?_, fun w _ => yp ?_ w⟩
        · exact hrd.part3 (by omega) (by omega)
        · simp only [zfa, hu, hv, zcz F hl, zcz F hr, hmx, hhi, cond_true]
          exact zet hs3 fun hh => ⟨hh.1, zzk _, by omega, hnz trivial⟩
      · exact hs2.elim
    · exact hs2.elim
  · rename_i e s rows hu he
    rw [he] at hx
    obtain ⟨hc, hs2⟩ := zaa hs
    simp only [zyy, zzt] at hc
    have hse := zy1 hc.1
    subst hse
    have hne : zao P e ≠ 0 := fun h0 => by rw [h0] at hc; simp at hc
    have hnz : ∀ {A : Prop}, A → nz (zao P e) A := fun hA => by
     unfold nz
     rw [show zyw (zao P e) 0 = false from hc.2]; exact hA
    obtain ⟨a, hv, hrd⟩ := hx.c_inv
    split at hs2
    · rename_i l r hl hr
      obtain ⟨h0, h1, h2, h3, hK⟩ := zbw (zcz F hl) hs2
      have hpart := Rd.part hrd (l := l.toNat) (r := r.toNat) (by omega) (by omega)
      have e1 : r.toNat = rows.length := by omega
      refine ⟨_, _, hK, (?_ : Rp D ρ (.slice (slA a rows.length l.toNat (zao P e)) (zhb r.toNat l.toNat) (zhb rows.length l.toNat)) _), fun w _ => yp ?_ w⟩
      · rw [e1] at hpart ⊢; exact .c hpart
      · simp only [zfa, hu, hv, zcz F hl, zcz F hr]
        exact zet hs2 fun hh => ⟨hh.1, by omega, hnz trivial⟩
    · exact hs2.elim
  · rename_i e b hu he
    rw [he] at hx
    split at hs
    · rename_i E sz rows hm
      obtain ⟨L', ch, g1, g2, g3⟩ := M.get (b := b) (by rw [hm]; simp)
      obtain ⟨L, hL, hv⟩ := hx.w_inv
      rw [hL] at g1; cases g1
      rw [hm] at g3
      cases g3 with
      | w own hn =>
        have hx' : Rp D ρ (ev T x) (.v b sz 0 rows.length false) := by
         rw [hv]
         refine hn ▸ .v hL (by omega) (fun _ => rfl) (fun h0 => ?_) (by rw [hn]; exact own.len) (by simp) (fun _ _ => rfl)
         obtain ⟨p, e1⟩ := own.some_of (fun e1 => by rw [e1] at hn; simp at hn; omega)
         exact ⟨p, 0, e1, by rw [e1]; simp⟩
        exact view_S (chs := chs) F hu hs hx'
    · exact hs.elim
  · rename_i e b sz l n c hu he
    rw [he] at hx
    exact view_S (chs := chs) F hu hs hx
  · exact hs.elim
 case load S a =>
  obtain ⟨bb, oo, v, x, hv, hK, hr, hrun⟩ := zvn hs M (zcf F a) (bs := zk8 t ⟨dst, .load S a, ty, pos, after, guard⟩) fun b hb => by
   rw [inL_iff]; simp [zk8, Op.operands, zag, hb]
  exact ⟨v, x, hK, hr, fun w hw => by
   have hw := hw.resolve_left (by simp [znt, zg3])
   simp [execOp, Instr.loadAt, Instr.sureAddr, hv, hrun w hw]⟩
 case lookup S x k ok =>
  obtain ⟨v, y, hK, hr, hrun⟩ := look_S hs M (zcf F x) (zcf F k) (bs := zk8 t ⟨dst, .lookup S x k ok, ty, pos, after, guard⟩) fun b hb => by
   rw [inL_iff]; simp [zk8, Op.operands, zag, hb]
  exact ⟨v, y, hK, hr, fun w hw => by
   have hw := hw.resolve_left (by simp [znt, zg3])
   simp [execOp, hrun w hw]⟩
 case call c =>
  obtain ⟨callee, args, argTypes⟩ := c
  simp only at hs
  split at hs
  · split at hs
    · rename_i x S hax hat
      obtain ⟨hc, hs⟩ := zaa hs
      have hx := zcf F x
      have ha1 : args = #[x] := by rw [← z0n (xs := args), hax]
      have ha2 : argTypes = #[S] := by rw [← z0n (xs := argTypes), hat]
      subst ha1 ha2
      have sl : ∀ {a : Option Addr} {n c : Nat} {e : TypeId}, P.underlying S = some (.slice e) → ev T x = .slice a n c → ∀ w : World, (execOp (ev T) ⟨dst, .call ⟨.builtin .len, #[x], #[S]⟩, ty, pos, after, guard⟩).run P w = .ok (.value (.int .i64 n)) w :=
       fun hu hv w => by simp [execOp, resolve, invoke, Go.builtin, Builtin.len_, goInt, hv, run_underlying hu]
      unfold okLen at hc
      split at hc
      · rename_i s hu he
        rw [he] at hx hs
        refine ⟨_, _, hs, .u (.int _ _), fun w _ => ?_⟩
        simp [execOp, resolve, invoke, Go.builtin, Builtin.len_, goInt, zu4 hx, run_underlying hu]
      · rename_i e s rows hu he
        rw [he] at hx hs
        obtain ⟨a, c, hv, -⟩ := hx.l_inv
        exact ⟨_, _, hs, .u (.int _ _), fun w _ => sl hu hv w⟩
      · rename_i e s rows hu he
        rw [he] at hx hs
        obtain ⟨a, hv, -⟩ := hx.c_inv
        exact ⟨_, _, hs, .u (.int _ _), fun w _ => sl hu hv w⟩
      · rename_i e hu he
        rw [he] at hx hs
        have hv : ev T x = .slice none 0 0 := by generalize ev T x = v at hx; cases hx; rfl
        exact ⟨_, _, hs, .u (.int _ _), fun w _ => sl hu hv w⟩
      · rename_i e b hu he
        rw [he] at hx hs
        obtain ⟨L, hL, hv⟩ := hx.w_inv
        simp only [lenS] at hs
        split at hs
        · rename_i E sz rows hm
          obtain ⟨L', ch, g1, g2, g3⟩ := M.get (b := b) (by rw [hm]; simp)
          rw [hL] at g1; cases g1
          rw [hm] at g3
          cases g3 with
          | w own hn => exact ⟨_, _, hs, .u (.int _ _), fun w _ => by rw [← hn]; exact sl hu hv w⟩
        · rename_i E sz n l hm
          obtain ⟨L', ch, g1, g2, g3⟩ := M.get (b := b) (by rw [hm]; simp)
          rw [hL] at g1; cases g1
          rw [hm] at g3
          cases g3 with
          | cw hA hn hc hl h5 h6 => exact ⟨_, _, hs, .u (.int _ _), fun w _ => by rw [← hn]; exact sl hu hv w⟩
        · exact hs.elim
      · rename_i e b sz l n c hu he
        rw [he] at hx hs
        obtain ⟨L, a, cap, g1, g2, g3, g4, g5, g6, g7, hv⟩ := hx.v_inv
        exact ⟨_, _, hs, .u (.int _ _), fun w _ => sl hu hv w⟩
      · rename_i e b o n hu he
        rw [he] at hx hs
        obtain ⟨L, a, cap, g1, g2, g3, hv⟩ := hx.sl_inv
        exact ⟨_, _, hs, .u (.int _ _), fun w _ => sl hu hv w⟩
      · rename_i K E b hu he
        rw [he] at hx hs
        simp only [lenS] at hs
        split at hs
        · rename_i kt sz ag rows hm
          obtain ⟨L', ch, g1, g2, g3⟩ := M.get (b := b) (by rw [hm]; simp)
          rw [hm] at g3
          generalize hv : ev T x = v at hx
          cases hx with
          | m hL =>
            rw [hL] at g1; cases g1
            cases g3 with
            | p I R hl =>
              rename_i es clk mv
              have hn : es.size = rows.length := by rw [← R.len, ← zhl I.ent]; simp
              refine ⟨_, _, hs, .u (.int _ _), fun w hw => ?_⟩
              have hw := hw.resolve_left (by simp [znt, zg3])
              have hb := hw _ _ (.inr ⟨b, _, by rw [inL_iff]; simp [zk8, Op.operands, Call.operands, zag, he, zae], g2, zzx _⟩)
              simp [execOp, resolve, invoke, Go.builtin, Builtin.len_, goInt, hv, run_underlying hu, MapKept.run_getObj_map hb, hn]
        · exact hs.elim
      · rename_i K E hu he
        rw [he] at hx hs
        generalize hv : ev T x = v at hx
        cases hx
        exact ⟨_, _, hs, .u (.int _ _), fun w _ => by simp [execOp, resolve, invoke, Go.builtin, Builtin.len_, goInt, hv, run_underlying hu]⟩
      · cases hc
    · exact hs.elim
  · split at hs
    · rename_i vs ha
      obtain ⟨v, hv, hr⟩ := XWp.sound hs
      refine ⟨v, _, hv, zjj v, fun w _ => ?_⟩
      have e : args.map (ev T) = vs.toArray := by rw [← zyk F ha]; cases args; simp
      simp [execOp, resolve, invoke, Go.builtin, e, hr w]
    · exact hs.elim
  · split at hs
    · rename_i vs ha
      obtain ⟨v, hv, hr⟩ := XWp.sound hs
      refine ⟨v, _, hv, zjj v, fun w _ => ?_⟩
      have e : args.map (ev T) = vs.toArray := by rw [← zyk F ha]; cases args; simp
      simp [execOp, resolve, invoke, Go.builtin, e, hr w]
    · exact hs.elim
  · exact hs.elim
end
section
variable {P : Program} {D D' : Fz} {ρ : List Loc} {m : Mem} {chs C : List zac} {h h' : zaf} {T : List Value} {t : List V}
theorem zbz : ∀ (m : Mem) (b : Nat) (a : AB), (ms m b a).length = m.length
 | [], _, _ => rfl
 | _ :: _, 0, _ => rfl
 | y :: m, b + 1, a => by simp [ms, zbz m b a]
theorem zlv : ∀ (m : Mem) (b : Nat) (a : AB), ms m b a = m.set b a
 | [], _, _ => rfl
 | _ :: _, 0, _ => rfl
 | y :: m, b + 1, a => by simp [ms, zlv m b a]
theorem ziu (m : Mem) (i : Nat) : mg m i = (m[i]?).getD .x := by
 induction m generalizing i with
 | nil => rfl
 | cons a m ih => cases i with
   | zero => rfl
   | succ i => simpa [mg] using ih i
theorem zbe {c : Nat} {a : AB} (hn : b ≠ c) : mg (ms m b a) c = mg m c := by rw [ziu, ziu, zlv, zzp hn]
theorem zw2 {a : AB} (hb : b < m.length) : mg (ms m b a) b = a := by rw [ziu, zlv, zz3 hb]; rfl
theorem zki {s : Mem} (hb : b < m.length) : mg (m ++ s) b = mg m b := by rw [ziu, ziu, zy7 hb]
theorem set_perm {α : Type} {l : List (List α)} {i : Nat} {c c' : List α} (hi : l[i]? = some c) : (l.set i c').flatten.Perm (c' :: l.eraseIdx i).flatten := by
 have hlt := (zyz.1 hi).1
 have := zik (C := l.set i c') (i := i) (c := c') (by rw [zz3 hlt])
 rwa [List.eraseIdx_set_eq] at this
theorem SAt.front (M : SAt D ρ m chs C h) (hc : chs[b]? = some ch) : St D (ch :: (chs ++ C).eraseIdx b) h := M.st.pick b (zai hc)
theorem SAt.put (M : SAt D ρ m chs C h) {ch' : zac} (hL : ρ[b]? = some L) (hc : chs[b]? = some ch) (S : St D' (ch' :: (chs ++ C').eraseIdx b) h') (l : Le D D') (he : Ent D' ρ L ab ch') :
 SAt D' ρ (ms m b ab) (chs.set b ch') C' h' where
 len := by rw [zbz]; exact M.len
 lch := by rw [zbz, zzz]; exact M.lch
 ent i L' ab' ch'' h1 h2 h3 := by
  by_cases hi : b = i
  · subst hi
    have hlt : b < chs.length := (zyz.1 hc).1
    rw [zlv, zz3 (by rw [← M.lch]; exact hlt)] at h2
    rw [zz3 hlt] at h3
    rw [hL] at h1
    cases h1; cases h2; cases h3
    exact he
  · rw [zlv, zzp hi] at h2
    rw [zzp hi] at h3
    have := (M.ent i L' ab' ch'' h1 h2 h3).mono l []
    rwa [zzw] at this
 st := by
  have hlt : b < chs.length := (zyz.1 hc).1
  refine S.perm ?_
  have := set_perm (l := chs ++ C') (c' := ch') (zai hc)
  rw [List.set_append_left _ _ hlt] at this
  exact this.symm
theorem SAt.mono (M : SAt D ρ m chs C h) (l : Le D D') (S : St D' (chs ++ C') h') : SAt D' ρ m chs C' h' where
 len := M.len
 lch := M.lch
 ent i L ab ch h1 h2 h3 := by
  have := (M.ent i L ab ch h1 h2 h3).mono l []
  rwa [zzw] at this
 st := S
theorem SAt.push (M : SAt D ρ m chs (ch :: C) h) (he : Ent D (ρ ++ [L]) L ab ch) : SAt D (ρ ++ [L]) (m ++ [ab]) (chs ++ [ch]) C h where
 len := by simp [M.len]
 lch := by simp [M.lch]
 ent i L' ab' ch' h1 h2 h3 := by
  have hl := M.len
  have hc := M.lch
  by_cases hi : i < m.length
  · rw [zy7 (by omega)] at h1 h2 h3
    exact (M.ent i L' ab' ch' h1 h2 h3).mono (.refl D) [L]
  · have hlt := (zyz.1 h2).1
    simp at hlt
    have hi : i = m.length := by omega
    subst hi
    rw [zzn (by omega), ← hl] at h1
    rw [zzn (by omega)] at h2
    rw [zzn (by omega), ← hc] at h3
    simp at h1 h2 h3
    subst h1 h2 h3
    exact he
 st := M.st.perm (by simp [zzs])
theorem SAt.drop (M : SAt D ρ m chs C h) (b : Nat) : SAt D ρ (ms m b .x) (chs.set b []) C h := by
 by_cases hb : b < m.length
 · have hr : b < ρ.length := by rw [M.len]; exact hb
   have hc : b < chs.length := by rw [M.lch]; exact hb
   exact M.put (zy0 hr) (zy0 hc) (M.front (zy0 hc)).drop.nil (.refl D) .x
 · have e1 : ms m b .x = m := by rw [zlv]; exact z12 (by omega)
   have e2 : chs.set b [] = chs := z12 (by rw [M.lch]; omega)
   rw [e1, e2]; exact M
variable {ro hr : List Nat}
theorem Nx.refl : Nx ro hr D ρ m chs D ρ m chs := ⟨.refl D, ⟨[], by simp⟩, fun _ _ _ => rfl, fun _ _ _ => rfl, zy9 _⟩
theorem Nx.trans {D1 D2 : Fz} {ρ1 ρ2 : List Loc} {m1 m2 : Mem} {c1 c2 : List zac} (a : Nx ro hr D ρ m chs D1 ρ1 m1 c1) (b : Nx ro hr D1 ρ1 m1 c1 D2 ρ2 m2 c2) : Nx ro hr D ρ m chs D2 ρ2 m2 c2 where
 le := a.le.trans b.le
 pre := by obtain ⟨s, rfl⟩ := a.pre; obtain ⟨s', rfl⟩ := b.pre; exact ⟨s ++ s', by simp⟩
 keep i h1 h2 := by rw [b.keep i h1 (z2b h2 a.len), a.keep i h1 h2]
 same i h1 h2 := by rw [b.same i h1 (z2b h2 a.len), a.same i h1 h2]
 len := Nat.le_trans a.len b.len
theorem zl6 {a b : List Nat} {i : Nat} (h : inL a i = true) : inL (a ++ b) i = true := by rw [inL_iff] at h ⊢; simp [h]
theorem Nx.set (l : Le D D') (hb : inL (hr ++ ro) b = false) : Nx ro hr D ρ m chs D' ρ (ms m b ab) (chs.set b ch) where
 le := l
 pre := ⟨[], by simp⟩
 keep i h1 h2 := by rw [zzp]; rintro rfl; rw [zl6 h1] at hb; cases hb
 same i h1 h2 := zbe (by rintro rfl; rw [h1] at hb; cases hb)
 len := by rw [zbz]; exact zy9 _
theorem Nx.push (M : SAt D ρ m chs C h) {s : List Loc} {a : Mem} {c : List zac} (l : Le D D') : Nx ro hr D ρ m chs D' (ρ ++ s) (m ++ a) (chs ++ c) where
 le := l
 pre := ⟨s, rfl⟩
 keep i h1 h2 := zy7 (by rw [M.lch]; exact h2)
 same i h1 h2 := zki h2
 len := by simp
theorem Nx.rp (n : Nx ro hr D ρ m chs D' ρ' m' chs') (hv : Rp D ρ v x) : Rp D' ρ' v x := by
 obtain ⟨s, rfl⟩ := n.pre; exact hv.mono n.le s
theorem Nx.rpL (n : Nx ro hr D ρ m chs D' ρ' m' chs') {v : List Value} {x : List V} (hv : RpL D ρ v x) : RpL D' ρ' v x := by
 obtain ⟨s, rfl⟩ := n.pre; exact hv.mono n.le s
theorem Nx.rpC (n : Nx ro hr D ρ m chs D' ρ' m' chs') {v : List Value} {x : List V} (hv : RpC D ρ v x) : RpC D' ρ' v x := by
 obtain ⟨s, rfl⟩ := n.pre; exact hv.mono n.le s
theorem toU_S {u : U} (hs : toU (hr ++ ro) m x = some (u, m')) (M : SAt D ρ m chs C h) (hv : Rp D ρ v x) :
 ∃ D' chs', Nx ro hr D ρ m chs D' ρ m' chs' ∧ SAt D' ρ m' chs' C h ∧ Rd D' v u := by
 unfold toU at hs
 split at hs
 · cases hs; cases hv with | u hv => exact ⟨D, chs, .refl, M, hv⟩
 · cases hs; cases hv with | c hv => exact ⟨D, chs, .refl, M, hv⟩
 · cases hs; cases hv; exact ⟨D, chs, .refl, M, .nil _ _ _⟩
 · cases hs
   obtain ⟨p, o, h1, rfl⟩ := hv.q_inv
   exact ⟨D, chs, .refl, M, h1⟩
 · rename_i b
   split at hs
   · rename_i E sz rows hm
     cases hb : inL (hr ++ ro) b with
     | true => rw [hb] at hs; cases hs
     | false =>
       rw [hb] at hs
       cases hs
       obtain ⟨L, ch, h1, h2, h3⟩ := M.get (b := b) (by rw [hm]; simp)
       obtain ⟨L', h4, rfl⟩ := hv.w_inv
       rw [h1] at h4; cases h4
       rw [hm] at h3
       cases h3 with
       | w own hn =>
         obtain ⟨D', l, S, hr⟩ := own.freeze (M.front h2)
         rw [hn]
         exact ⟨D', _, .set l hb, M.put h1 h2 S.nil l .x, hr⟩
   · cases hs
 · cases hs
theorem zrb : ∀ {xs : List V} {us : List U} {vs : List Value} {m m' : Mem} {D : Fz} {chs : List zac}, toUs (hr ++ ro) m xs = some (us, m') → SAt D ρ m chs C h → RpC D ρ vs xs →
 ∃ D' chs', Nx ro hr D ρ m chs D' ρ m' chs' ∧ SAt D' ρ m' chs' C h ∧ RdL D' vs us
 | [], us, vs, m, m', D, chs, hs, M, hv => by cases hs; cases hv; exact ⟨D, chs, .refl, M, .nil⟩
 | x :: xs, us, vs, m, m', D, chs, hs, M, hv => by
   simp only [toUs] at hs
   split at hs
   · rename_i u m1 h1
     split at hs
     · rename_i us' m2 h2
       cases hs
       cases hv with
       | cons a n b =>
         obtain ⟨D1, c1, n1, M1, r1⟩ := toU_S h1 M a
         obtain ⟨D2, c2, n2, M2, r2⟩ := zrb h2 M1 (n1.rpC b)
         exact ⟨D2, c2, n1.trans n2, M2, .cons (r1.mono n2.le) r2⟩
       | n hl b => simp [toU] at h1
     · cases hs
   · cases hs
theorem zea (hv : Rp D ρ v x) : Rp D ρ v (zdf P S x) := by
 unfold zdf
 split
 · cases hv with | a h => exact .a (zgk h)
 · split
   · cases hv; exact .nl
   · exact hv
 · exact hv
theorem zfk (hc : zhw P S x = some xs) (hv : Rp D ρ v x) : RpC D ρ v.cells.toList xs := zsz hc (zea hv)
end
section
variable {P : Program} {D D' : Fz} {ρ : List Loc} {m : Mem} {chs C : List zac} {h h' : zaf} {T : List Value} {t : List V} {ro hr : List Nat}
theorem zps {z : Value × Nat} (hk : shOk z x = true) (hv : Rp D ρ v x) : single v = true := by
 obtain ⟨z, s⟩ := z
 unfold shOk at hk
 split at hk <;> first
  | (cases hk; done)
  | (cases hv with | u hr => cases hr <;> rfl)
  | (cases hv; rfl)
theorem zgf : ∀ {xs : List V} {zs : List (Value × Nat)} {vs : List Value}, shL zs xs = true → RpC D ρ vs xs → vs.length = zs.length ∧ ∀ v ∈ vs, single v = true
 | [], zs, vs, hk, hv => by
   cases hv
   cases zs with
   | nil => exact ⟨rfl, by simp⟩
   | cons z zs => simp [shL] at hk
 | x :: xs, zs, vs, hk, hv => by
   cases hv with
   | n hl b =>
     rename_i k w l vs
     simp only [shL, zyy] at hk
     obtain ⟨⟨⟨h1, h2⟩, h3⟩, h4⟩ := hk
     have := zz0 h2
     obtain ⟨g1, g2⟩ := zgf h4 b
     refine ⟨by simp at g1 ⊢; omega, fun v hv => ?_⟩
     rcases zy6.1 hv with hv | hv
     · obtain ⟨i, -, rfl⟩ := zzu.1 hv; rfl
     · exact g2 v hv
   | cons a n b =>
     cases zs with
     | nil => cases x <;> first | exact absurd rfl (n _ _ _) | simp [shL] at hk
     | cons z zs =>
       have : shOk z x = true ∧ shL zs xs = true := by cases x <;> first | exact absurd rfl (n _ _ _) | (simp only [shL, zyy] at hk; exact hk)
       obtain ⟨g1, g2⟩ := zgf this.2 b
       refine ⟨by simp [g1], fun v hv => ?_⟩
       rcases zy3.1 hv with rfl | hv
       · exact zps this.1 a
       · exact g2 v hv
theorem zuc (hc : zkt x = some xs) (hn : ∀ l, x ≠ .a l) (hv : Rp D ρ v x) : v.cells.toList = [v] := by
 cases hv with
 | a => exact absurd rfl (hn _)
 | u hr => cases hr <;> rfl
 | z => cases hc
 | t => cases hc
 | _ => rfl
theorem zud (hv : Rp D ρ v (.a l)) : ∃ vs, v = .agg vs := by obtain ⟨vs, rfl, -⟩ := hv.a_inv; exact ⟨_, rfl⟩
theorem zvb (hz : zb9 P S = some zs) (hv : Rp D ρ v x) (hc : zkt x = some xs) (ha : zq0 P S x = true) {o : Nat} {K : zaf → Prop} (hn : v.cells.toList.length = zs.length)
 (hK : zd5 b o v.cells.toList 0 h K) : zfm P S (some ⟨b, o, none⟩) v h K := by
 unfold zb9 at hz
 unfold zfm
 split at hz
 · rename_i z hl
   cases hz
   rw [zfv hl]
   have hx : ∀ l, x ≠ .a l := fun l e => by subst e; simp [zq0, hl] at ha
   rw [zuc hc hx hv] at hK
   exact hK
 · rename_i zs' hl
   cases hz
   obtain ⟨cs, h1, h2⟩ := zee hl
   rw [h1]
   have hx : ∃ l, x = .a l := by
    unfold zq0 at ha
    rw [hl] at ha
    cases x <;> first | exact ⟨_, rfl⟩ | simp at ha
   obtain ⟨l, rfl⟩ := hx
   obtain ⟨vs, rfl⟩ := zud hv
   show cond (zyw cs.length vs.toList.length) (zd5 b o vs.toList 0 h K) False
   have : zyw cs.length vs.toList.length = true := by rw [h2, ← hn]; exact Nat.beq_refl _
   rw [this]; exact hK
 · cases hz
theorem zgz : ∀ (l : List U) (o : Nat) (us : List U), o + us.length ≤ l.length → usp l o us = l.take o ++ us ++ l.drop (o + us.length)
 | l, o, [], h => by cases l <;> cases o <;> simp [usp]
 | [], o, u :: us, h => by simp at h
 | x :: l, 0, u :: us, h => by
   simp only [usp]
   rw [zgz l 0 us (by simp at h ⊢; omega)]
   simp
 | x :: l, o + 1, u :: us, h => by
   simp only [usp]
   rw [zgz l o (u :: us) (by simp at h ⊢; omega)]
   simp [show o + 1 + (us.length + 1) = (o + (us.length + 1)) + 1 by omega]
theorem zu0 (l : List U) (o : Nat) (us : List U) (h : o + us.length ≤ l.length) : (usp l o us).length = l.length := by rw [zgz l o us h]; simp; omega
theorem zu1 (l : List U) (o : Nat) (us : List U) (h : o + us.length ≤ l.length) (j : Nat) : (usp l o us)[j]? = if j < o then l[j]? else if j < o + us.length then us[j - o]? else l[j]? := by
 rw [zgz l o us h]
 have hl : (l.take o).length = o := by simp; omega
 split
 · rename_i hj; rw [zy8, zy7 (by omega), z3e hj]
 · rename_i hj
   split
   · rename_i hj2; rw [zy8, zzn (by omega), hl, zy7 (by omega)]
   · rename_i hj2
     rw [zzn (by simp; omega), z1d]
     congr 1
     simp [hl]; omega
theorem Own.poke {E c p q i o : Nat} {r : List U} {K : zaf → Prop} (x : Own D E sz a c rows ch) (S : St D (ch :: CC) h) (ha : a = some ⟨p, q, none⟩) (hi : rows[i]? = some r)
 (hv : RdL D vs us) (ho : o + us.length ≤ sz) (hK : ∀ ch' h', Own D E sz a c (rows.set i (usp r o us)) ch' → St D (ch' :: CC) h' → K h') : zd5 p (q + i * sz + o) vs 0 h K := by
 subst ha
 cases x with
 | nil => simp at hi
 | row b c arr rows v h1 h2 h3 h4 h5 =>
   obtain ⟨l⟩ := arr
   have hil := (zyz.1 hi).1
   have hrl : r.length = sz := h3 r (zy4 hi)
   have hsz : i * sz + sz ≤ l.length := by
    have h1' : l.length = c * sz := by simpa using h1
    rw [h1']
    have := z0k sz (show i + 1 ≤ c by omega)
    rwa [zzy] at this
   have hvl := hv.len
   refine S.st0 (z1i (by omega)) (z0d.2 hv.single) fun h' S' => ?_
   have hl0 : 0 + i * sz + o + 0 + vs.length ≤ l.length := by omega
   refine hK _ h' (.row p c _ _ (fun k j => if k = i ∧ o ≤ j ∧ j < o + us.length then vs.getD (j - o) undef else v k j) ?_ (by simpa using h2) ?_ ?_ ?_) S'
   · simp only [z00, zat]; simpa using h1
   · intro r' hr'
     rcases z13 hr' with hr' | rfl
     · exact h3 r' hr'
     · rw [zu0 _ _ _ (by omega), hrl]
   · intro k j r' u hk hu
     simp only [z0a]
     rw [za2 _ _ _ _ hl0]
     by_cases hki : k = i
     · subst hki
       rw [zz3 hil] at hk
       cases hk
       have hj : j < sz := by have := (zyz.1 hu).1; rwa [zu0 _ _ _ (by omega), hrl] at this
       rw [zu1 _ _ _ (by omega)] at hu
       by_cases c1 : j < o
       · rw [if_pos (by omega), if_neg (by omega)]
         rw [if_pos c1] at hu
         simpa using h4 k j r u hi hu
       · by_cases c2 : j < o + us.length
         · rw [if_neg (by omega), if_pos (by omega), if_pos ⟨rfl, by omega, c2⟩]
           rw [show k * sz + j - (0 + k * sz + o + 0) = j - o by omega]
           have : j - o < vs.length := by omega
           simp [this]
         · rw [if_neg (by omega), if_neg (by omega), if_neg (by omega)]
           rw [if_neg c1, if_neg c2] at hu
           simpa using h4 k j r u hi hu
     · rw [zzp (Ne.symm hki)] at hk
       have hj : j < sz := by have := (zyz.1 hu).1; rwa [h3 r' (zy4 hk)] at this
       have hd : k * sz + sz ≤ i * sz ∨ i * sz + sz ≤ k * sz := by
        rcases Nat.lt_or_gt_of_ne hki with hlt | hlt
        · have := z0k sz (show k + 1 ≤ i by omega); rw [zzy] at this; exact .inl this
        · have := z0k sz (show i + 1 ≤ k by omega); rw [zzy] at this; exact .inr this
       have := h4 k j r' u hk hu
       simp only [z0a] at this
       simp only [hki, false_and, if_false]
       rcases hd with hd | hd
       · rw [if_pos (by omega)]; exact this
       · rw [if_neg (by omega), if_neg (by omega)]; exact this
   · intro k j r' u hk hu
     by_cases hki : k = i
     · subst hki
       rw [zz3 hil] at hk
       cases hk
       rw [zu1 _ _ _ (by omega)] at hu
       by_cases c1 : j < o
       · rw [if_neg (by omega)]; rw [if_pos c1] at hu; exact h5 k j r u hi hu
       · by_cases c2 : j < o + us.length
         · rw [if_pos ⟨rfl, by omega, c2⟩]
           rw [if_neg c1, if_pos c2] at hu
           obtain ⟨w, hw, hr⟩ := hv.get hu
           simp only [z07, hw, zz8]; exact hr
         · rw [if_neg (by omega)]; rw [if_neg c1, if_neg c2] at hu; exact h5 k j r u hi hu
     · rw [zzp (Ne.symm hki)] at hk
       simp only [hki, false_and, if_false]; exact h5 k j r' u hk hu
theorem usp_all (r us : List U) (h : us.length = r.length) : usp r 0 us = us := by rw [zgz _ _ _ (by omega)]; simp [h]
theorem RdL.ofAt {arr : List Value} : ∀ {us : List U} {o : Nat}, (∀ j u, us[j]? = some u → ∃ v, arr[o + j]? = some v ∧ Rd D v u) → RdL D ((arr.drop o).take us.length) us
 | [], o, h => by rw [z0z, List.take_zero]; exact .nil
 | u :: us, o, h => by
   obtain ⟨v, hv, hr⟩ := h 0 u rfl
   rw [z0y] at hv
   obtain ⟨hlt, e⟩ := zyz.1 hv
   rw [z1e hlt, e, zzg, List.take_succ_cons]
   exact .cons hr (RdL.ofAt fun j w hw => by
    have := h (j + 1) w (by simpa using hw)
    rwa [show o + (j + 1) = o + 1 + j by omega] at this)
theorem zsp {sz : Nat} : ∀ {rows : List (List U)} {k : Nat} {u : U}, (∀ r ∈ rows, r.length = sz) → rows.flatten[k]? = some u → ∃ (i j : Nat) (r : List U), rows[i]? = some r ∧ r[j]? = some u ∧ k = i * sz + j
 | [], k, u, _, h => by simp at h
 | r :: rows, k, u, hs, h => by
   rw [zzd] at h
   have hr := hs r (by simp)
   by_cases hk : k < r.length
   · rw [zy7 hk] at h
     exact ⟨0, k, r, rfl, h, by omega⟩
   · rw [zzn (by omega)] at h
     obtain ⟨i, j, r', h1, h2, h3⟩ := zsp (fun r hr => hs r (by simp [hr])) h
     exact ⟨i + 1, j, r', by simpa using h1, h2, by rw [zzy]; omega⟩
theorem zon {sz : Nat} : ∀ {rows : List (List U)}, (∀ r ∈ rows, r.length = sz) → rows.flatten.length = rows.length * sz
 | [], _ => by simp
 | r :: rows, hs => by rw [zzd, zzl, zon (fun r hr => hs r (by simp [hr])), hs r (by simp), zzg, zzy]; omega
theorem zte : ∀ (l : List Value) (o : Nat) (vs r : List Value), o + vs.length ≤ l.length → zar (l ++ r) o vs = zar l o vs ++ r := fun l o vs r h => by
 apply z1a
 intro j
 rw [za2 _ _ _ _ (by rw [zzl]; omega)]
 by_cases hj : j < l.length
 · have e1 : (zar l o vs ++ r)[j]? = (zar l o vs)[j]? := zy7 (by rw [zat]; exact hj)
   rw [e1, za2 _ _ _ _ h, zy7 hj]
 · have e1 : (zar l o vs ++ r)[j]? = r[j - l.length]? := by rw [zzn (by rw [zat]; omega), zat]
   rw [e1, if_neg (by omega), if_neg (by omega), zzn (by omega)]
theorem Own.cells {E c p q : Nat} (x : Own D E sz a c rows ch) (ha : a = some ⟨p, q, none⟩) (hne : rows ≠ []) : q = 0 ∧ ∃ vs ps : List Value, ch = [(p, .cells (vs ++ ps).toArray E (0, 0))] ∧ RpC D ρ vs (rows.flatten.map V.u) ∧ vs.length = rows.length * sz ∧ (vs ++ ps).length = c * sz ∧ rows.length ≤ c ∧ c ≤ 9223372036854775807 := by
 subst ha
 cases x with
 | nil => exact absurd rfl hne
 | row b c arr rows v h1 h2 h3 h4 h5 =>
   have hr : RdL D ((arr.toList.drop 0).take rows.flatten.length) rows.flatten := RdL.ofAt fun k u hu => by
    obtain ⟨i, j, r, g1, g2, rfl⟩ := zsp h3 hu
    refine ⟨v i j, ?_, h5 i j r u g1 g2⟩
    have := h4 i j r u g1 g2
    rw [zze]
    simpa using this
   rw [z09] at hr
   refine ⟨rfl, arr.toList.take rows.flatten.length, arr.toList.drop rows.flatten.length, ?_, .ofU hr, ?_, ?_, h2⟩
   · rw [z0h]
   · rw [hr.len, zon h3]
   · rw [z0h]; simpa using h1
theorem sStore_S {a : V} {va vx : Value} {KS : Mem → Prop} {K : zaf → Prop} (hs : zvm P vw (hr ++ ro) S a x m KS) (M : SAt D ρ m chs C h) (ha : Rp D ρ va a) (hx : Rp D ρ vx x)
 (hK : ∀ D' m' chs' h', Nx ro hr D ρ m chs D' ρ m' chs' → SAt D' ρ m' chs' C h' → KS m' → K h') : ∃ ad, va = .pointer ad ∧ zfm P S ad vx h K := by
 unfold zvm at hs
 split at hs
 · rename_i zs xs hz hvc
   obtain ⟨hk, hs2⟩ := zaa hs
   clear hs
   have hs := hs2
   clear hs2
   simp only [zyy] at hk
   have hnx := zea (P := P) (S := S) hx
   have hcx := zfk hvc hx
   obtain ⟨g1, g2⟩ := zgf hk.1 hcx
   have sk : ∀ {b o : Nat}, zd5 b o vx.cells.toList 0 h K → zfm P S (some ⟨b, o, none⟩) vx h K := fun hh => zvb hz hnx hvc hk.2 g1 hh
   split at hs
   · rename_i b o
     cases hb : inL (hr ++ ro) b with
     | true => rw [hb] at hs; exact hs.elim
     | false =>
       rw [hb] at hs
       simp only [cond_false] at hs
       split at hs
       · rename_i cells hm
         split at hs
         · rename_i l hp
           obtain ⟨L, hL, rfl⟩ := ha.r_inv
           obtain ⟨L', ch, h1, h2, h3⟩ := M.get (b := b) (by rw [hm]; simp)
           rw [hL] at h1; cases h1
           rw [hm] at h3
           cases h3 with
           | c hc =>
             rename_i arr S'
             obtain ⟨p1, p2⟩ := zrs hcx hp hc
             refine ⟨_, rfl, sk ((M.front h2).st0 (l := arr) (z1i (by omega)) (z0d.2 g2) fun h' S' => ?_)⟩
             rw [z0y] at S'
             exact hK D _ _ h' (.set (.refl D) hb) (M.put hL h2 S' (.refl D) (.c p2)) hs
         · exact hs.elim
       · exact hs.elim
   · rename_i b o w k
     cases hb : inL (hr ++ ro) b with
     | true => rw [hb] at hs; exact hs.elim
     | false =>
       rw [hb] at hs
       simp only [cond_false] at hs
       split at hs
       · rename_i cells y hm
         split at hs
         · rename_i k' w' l r hd
           obtain ⟨hw, hs2⟩ := zaa hs
           clear hs
           simp only [zyy] at hw
           have := zy1 hw.1
           have hk3 : k' = .i64 := by
            have := hw.2
            cases k' <;> first | rfl | simp [zax] at this
           subst this hk3
           split at hs2
           · rename_i l' hp
             obtain ⟨L, hL, k0, k1, rfl⟩ := ha.g_inv
             obtain ⟨L', ch, h1, h2, h3⟩ := M.get (b := b) (by rw [hm]; simp)
             rw [hL] at h1; cases h1
             rw [hm] at h3
             cases h3 with
             | c hc =>
               rename_i arr S'
               have hvy : vx.cells.toList = [.int .i64 y] := by
                generalize vx.cells.toList = q at hcx
                cases hcx with
                | cons a n b => cases b; rw [zha a]
               obtain ⟨pp, ss, rfl, hpp, hrr⟩ := zcu hd hc
               cases hrr with
               | cons a n b => exact absurd rfl (n _ _ _)
               | @n _ _ _ vs _ hl b =>
                 have hnew : RpC D ρ ((l.set k.toNat y).map (.int .i64)) [.n .i64 w (l.set k.toNat y)] := by
                  have := RpC.n (D := D) (ρ := ρ) (k := .i64) (w := w) (l := l.set k.toNat y) (vs := []) (xs := []) (by simp [hl]) .nil
                  simpa using this
                 obtain ⟨p1, p2⟩ := zrs hnew hp hc
                 refine ⟨_, rfl, sk ((M.front h2).st0 (l := pp ++ (l.map (.int .i64) ++ vs)) (z1i (by rw [hvy]; simp [hpp, hl]; omega)) (z0d.2 g2) fun h' S' => ?_)⟩
                 rw [z0y, hvy] at S'
                 have e : zar (pp ++ (l.map (.int .i64) ++ vs)) (o + k.toNat) [.int .i64 y] = zar (pp ++ (l.map (.int .i64) ++ vs)) o ((l.set k.toNat y).map (.int .i64)) := by
                  apply z1a
                  intro j
                  rw [za2 _ _ _ _ (by simp [hpp, hl]; omega), za2 _ _ _ _ (by simp [hpp, hl])]
                  simp only [zy2, zzz, zzg, z0z, hl]
                  by_cases c1 : j < o
                  · rw [if_pos (by omega), if_pos c1]
                  · rw [if_neg c1]
                    by_cases c2 : j < o + w
                    · rw [if_pos c2, zy5, List.getElem?_set]
                      by_cases c3 : j = o + k.toNat
                      · subst c3
                        rw [if_neg (by omega), if_pos (by omega), if_pos (by omega), if_pos (by omega)]
                        simp
                      · have c4 : (pp ++ (l.map (Value.int .i64) ++ vs))[j]? = (l.map (Value.int .i64))[j - o]? := by
                         rw [zzn (by omega), hpp, zy7 (by simp; omega)]
                        rw [if_neg (show ¬ k.toNat = j - o by omega), c4, zy5]
                        by_cases c5 : j < o + k.toNat
                        · rw [if_pos c5]
                        · rw [if_neg c5, if_neg (by omega)]
                    · rw [if_neg c2, if_neg (by omega), if_neg (by omega)]
                 rw [e] at S'
                 exact hK D _ _ h' (.set (.refl D) hb) (M.put hL h2 S' (.refl D) (.c p2)) hs2
           · exact hs2.elim
         · exact hs.elim
       · exact hs.elim
   · rename_i b sz k o
     cases hb : inL (hr ++ ro) b with
     | true => rw [hb] at hs; exact hs.elim
     | false =>
       rw [hb] at hs
       simp only [cond_false] at hs
       -- cells that are one's own, told as such
       have goC : ∀ {E n : Nat} {cells l : List V} {L : Loc} {ch : zac} {bb : Nat} {vs ps : List Value}, ρ[b]? = some L → chs[b]? = some ch → L.a = some ⟨bb, 0, none⟩ → L.n = n → ch = [(bb, .cells (vs ++ ps).toArray E (0, 0))] → RpC D ρ vs cells → vs.length = n * sz → (vs ++ ps).length = L.c * sz → n ≤ L.c ∧ L.c ≤ 9223372036854775807 →
        zuj xs (k.toNat * sz + o) cells = some l → KS (ms m b (.cw E sz n l)) → ∃ ad, va = .pointer ad ∧ zfm P S ad vx h K := by
        intro E n cells l L ch bb vs ps hL h2 hA hN hch hc hlen h5 h6 hp hk
        obtain ⟨L', p, q, hL', hA', k0, k1, rfl⟩ := ha.e_inv
        rw [hL] at hL'; cases hL'
        rw [hA] at hA'; cases hA'
        subst hch
        obtain ⟨p1, p2⟩ := zrs hcx hp hc
        refine ⟨_, rfl, sk ((M.front h2).st0 (l := vs ++ ps) (z1i (by rw [zzl]; omega)) (z0d.2 g2) fun h' S' => ?_)⟩
        rw [z0y, zze, zte _ _ _ _ p1] at S'
        exact hK D _ _ h' (.set (.refl D) hb) (M.put hL h2 S' (.refl D) (.cw hA hN p2 (by rw [zat, hlen]) (by rw [zzl, zat, ← zzl, h5]) h6)) hk
       split at hs
       · rename_i E sz' n cells hm
         obtain ⟨hw, hs2⟩ := zaa hs
         have := zy1 hw
         subst this
         split at hs2
         · rename_i l hp
           obtain ⟨L, ch, h1, h2, h3⟩ := M.get (b := b) (by rw [hm]; simp)
           rw [hm] at h3
           cases h3 with
           | cw hA hN hc hlen h5 h6 => exact goC h1 h2 hA hN rfl hc hlen h5 h6 hp hs2
         · exact hs2.elim
       rotate_left
       · exact hs.elim
       rename_i E0 sz0 rows0 hm0
       cases hkb : (vw && zqb m xs) with
       | true =>
         rw [hkb] at hs
         simp only [cond_true] at hs
         obtain ⟨hw, hs2⟩ := zaa hs
         have := zy1 hw
         subst this
         split at hs2
         · rename_i l hp
           obtain ⟨L, ch, h1, h2, h3⟩ := M.get (b := b) (by rw [hm0]; simp)
           rw [hm0] at h3
           cases h3 with
           | w own hn =>
             obtain ⟨L', p, q, hL', hA', k0, k1, -⟩ := ha.e_inv
             rw [h1] at hL'; cases hL'
             obtain ⟨rfl, vs, ps, e1, e2, e3, e4, e5⟩ := own.cells (ρ := ρ) hA' (fun e => by subst e; simp at hn; omega)
             exact goC h1 h2 hA' hn e1 e2 e3 e4 e5 hp hs2
         · exact hs2.elim
       | false =>
       rw [hkb] at hs
       simp only [cond_false] at hs
       split at hs
       · rename_i us m1 hu
         obtain ⟨D1, c1, n1, M1, r1⟩ := zrb hu M hcx
         obtain ⟨L, p, q, hL, hA, k0, k1, rfl⟩ := ha.e_inv
         split at hs
         · rename_i E sz' rows hm
           obtain ⟨hw, hs2⟩ := zaa hs
           clear hs
           have := zy1 hw
           subst this
           obtain ⟨L', ch, h1, h2, h3⟩ := M1.get (b := b) (by rw [hm]; simp)
           rw [hL] at h1; cases h1
           rw [hm] at h3
           cases h3 with
           | w own hn =>
             have hlt : k.toNat < rows.length := by omega
             have hrl : rows[k.toNat].length = sz := by
              generalize L.a = A, L.c = cc at own
              cases own with
              | nil => simp at hlt
              | row b c arr rows v g1 g2 g3 g4 g5 => exact g3 _ (z2t _)
             have go : ∀ r : List U, rows[k.toNat]? = some r → o + us.length ≤ sz → KS (ms m1 b (.w E sz (rows.set k.toNat (usp r o us)))) → ∃ ad, Value.pointer (some ⟨p, q + k.toNat * sz + o, none⟩) = .pointer ad ∧ zfm P S ad vx h K := fun r hr hle hk => by
              refine ⟨_, rfl, sk (own.poke (M1.front h2) hA hr r1 hle fun ch' h' own' S' => ?_)⟩
              exact hK D1 _ _ h' (n1.trans (.set (.refl _) hb)) (M1.put hL h2 S' (.refl _) (.w own' (by rw [hn, zzz]))) hk
             cases hc : (zyw o 0 && zyw us.length sz) with
             | true =>
               rw [hc] at hs2
               simp only [zyy] at hc
               have e1 := zy1 hc.1
               have e2 := zy1 hc.2
               subst e1
               exact go _ (zy0 hlt) (by omega) (by rw [usp_all _ _ (by rw [e2, hrl])]; exact hs2)
             | false =>
               rw [hc] at hs2
               obtain ⟨hle, hs3⟩ := zaa hs2
               obtain ⟨-, r, hr, hk⟩ := zdx hs3
               exact go r hr (zz0 hle) hk
         · exact hs.elim
       · exact hs.elim
   · exact hs.elim
 · exact hs.elim
end
section
variable {P : Program} {D D' : Fz} {ρ : List Loc} {m : Mem} {chs C : List zac} {h h' : zaf} {T : List Value} {t : List V} {ro hr : List Nat}
theorem St.mid {c : zac} {A B : List zac} (S : St D (c :: (A ++ B)) h) : St D (A ++ c :: B) h := S.perm (by simp [zzs]; exact zz2 _ _ _)
theorem St.unmid {c : zac} {A B : List zac} (S : St D (A ++ c :: B) h) : St D (c :: (A ++ B)) h := S.perm (by simp [zzs]; exact zz2 _ _ _)
theorem SAt.new (M : SAt D ρ m chs C h) {c : zac} (S : St D' (c :: (chs ++ C)) h') (l : Le D D') (he : Ent D' (ρ ++ [L]) L ab c) : SAt D' (ρ ++ [L]) (m ++ [ab]) (chs ++ [c]) C h' := (M.mono l S.mid).push he
theorem newB_S (M : SAt D ρ m chs C h) (hc : RpC D ρ vs xs) {K : Nat → zaf → Prop}
 (hK : ∀ b ρ' chs' h', Nx ro hr D ρ m chs D ρ' (m ++ [.c xs]) chs' → SAt D ρ' (m ++ [.c xs]) chs' C h' → Rp D ρ' (.pointer (some ⟨b, 0, none⟩)) (.r m.length 0) → K b h') : zr2 h (.cells vs.toArray e) K := by
 refine M.st.new fun b h1 S => hK b (ρ ++ [⟨b, none, 0, 0, none⟩]) (chs ++ [_]) h1 (.push M (.refl D)) (M.new S (.refl D) (.c (hc.mono (.refl D) _))) (.r (L := ⟨b, none, 0, 0, none⟩) ?_)
 rw [← M.len]; simp
theorem boxC_S (hc : zhw P S x = some xs) (M : SAt D ρ m chs C h) (hv : Rp D ρ v x) {K : Nat → zaf → Prop}
 (hK : ∀ b ρ' chs' h', Nx ro hr D ρ m chs D ρ' (m ++ [.c xs]) chs' → SAt D ρ' (m ++ [.c xs]) chs' C h' → Rp D ρ' (.pointer (some ⟨b, 0, none⟩)) (.r m.length 0) → K b h') : zr2 h (.cells v.cells S) K := by
 have := zfk hc hv
 rw [← z0n (xs := v.cells)]
 exact newB_S M this hK
theorem box_S (hc : zhw P S x = some xs) (M : SAt D ρ m chs C h) (hv : Rp D ρ v x) {K : Nat → zaf → Prop}
 (hK : ∀ b ρ' chs' h', Nx ro hr D ρ m chs D ρ' (m ++ [boxA S (bdE P S) xs]) chs' → SAt D ρ' (m ++ [boxA S (bdE P S) xs]) chs' C h' → Rp D ρ' (.pointer (some ⟨b, 0, none⟩)) (.r m.length 0) → K b h') : zr2 h (.cells v.cells S) K := by
 cases hb : bdE P S with
 | none => rw [hb] at hK; exact boxC_S hc M hv hK
 | some e =>
   rw [hb] at hK
   simp only [boxA] at hK
   unfold boxB at hK
   split at hK
   · have hr := zfk hc hv
     have hz' : v.cells = #[.pointer none, .slice none 0 0] := by
      apply Array.ext'
      generalize v.cells.toList = l at hr
      cases hr with
      | cons h1 _ h2 =>
        cases h2 with
        | cons h3 _ h4 =>
          cases h4
          cases h3
          cases h1 with
          | u hr => cases hr; rfl
     rw [hz']
     refine M.st.new fun b h1 S1 => hK b (ρ ++ [⟨b, none, 0, 0, none⟩]) (chs ++ [_]) h1 (.push M (.refl D)) (M.new S1 (.refl D) (.o ⟨fun n hn => absurd hn (by simp), _, .inl rfl, .inl ⟨rfl, rfl⟩⟩)) (.r (L := ⟨b, none, 0, 0, none⟩) ?_)
     rw [← M.len]; simp
   · exact boxC_S hc M hv hK
theorem allocC_S {z : Value} (M : SAt D ρ m chs C h) {K : Nat → zaf → Prop}
 (hK : ∀ b ρ' chs' h', Nx ro hr D ρ m chs D ρ' (m ++ [.c (match ofV z with | .a l => zjv P S l | x => [zdf P S x])]) chs' → SAt D ρ' (m ++ [.c (match ofV z with | .a l => zjv P S l | x => [zdf P S x])]) chs' C h' → Rp D ρ' (.pointer (some ⟨b, 0, none⟩)) (.r m.length 0) → K b h') : zr2 h (.cells z.cells S) K := by
 have : RpC D ρ z.cells.toList (match ofV z with | .a l => zjv P S l | x => [zdf P S x]) := by
  have key : ∀ (y : Value), (∀ cs, y ≠ .agg cs) → RpC D ρ y.cells.toList (match ofV y with | .a l => zjv P S l | x => [zdf P S x]) := by
   intro y hy
   have h1 := zr1 (D := D) (ρ := ρ) y
   have e1 : ofV y = zp5 y := by cases y <;> first | rfl | exact absurd rfl (hy _)
   have e2 : y.cells.toList = [y] := by cases y <;> first | rfl | exact absurd rfl (hy _)
   rw [e1, e2]
   have h2 := zea (P := P) (S := S) h1.1
   have h3 : ∀ l, zp5 y ≠ .a l := by intro l; unfold zp5; split <;> simp
   cases hx : zp5 y <;> first
    | exact absurd hx (h3 _)
    | exact absurd hx (h1.2 _ _ _)
    | (rw [hx] at h2
       refine .cons h2 ?_ .nil
       intro k w l
       unfold zdf
       split <;> (try split) <;> simp)
  cases hz : z with
  | agg cs => exact zgk (zfb cs.toList)
  | _ => rw [← hz]; exact key z (by rw [hz]; simp)
 rw [← z0n (xs := z.cells)]
 exact newB_S M this hK
theorem alloc_S {z : Value} (M : SAt D ρ m chs C h) {K : Nat → zaf → Prop}
 (hK : ∀ b ρ' chs' h', Nx ro hr D ρ m chs D ρ' (m ++ [newA P S z]) chs' → SAt D ρ' (m ++ [newA P S z]) chs' C h' → Rp D ρ' (.pointer (some ⟨b, 0, none⟩)) (.r m.length 0) → K b h') : zr2 h (.cells z.cells S) K := by
 unfold newA at hK
 split at hK
 · rename_i e hb hz
   have hz' : z.cells = #[.pointer none, .slice none 0 0] := Array.toList_inj.1 hz
   rw [hz']
   refine M.st.new fun b h1 S1 => hK b (ρ ++ [⟨b, none, 0, 0, none⟩]) (chs ++ [_]) h1 (.push M (.refl D)) (M.new S1 (.refl D) (.o ⟨fun n hn => absurd hn (by simp), _, .inl rfl, .inl ⟨rfl, rfl⟩⟩)) (.r (L := ⟨b, none, 0, 0, none⟩) ?_)
   rw [← M.len]; simp
 · exact allocC_S M hK
theorem zl8 {sz : Nat} : ∀ {rows : List (List U)} {i j : Nat} {r : List U} {u : U}, (∀ r ∈ rows, r.length = sz) → rows[i]? = some r → r[j]? = some u → rows.flatten[i * sz + j]? = some u
 | [], i, j, r, u, hs, hi, hj => by simp at hi
 | r0 :: rows, i, j, r, u, hs, hi, hj => by
   rw [zzd]
   cases i with
   | zero =>
     simp at hi; subst hi
     have := (zyz.1 hj).1
     rw [z11, zze, zy7 this]; exact hj
   | succ i =>
     have h0 : r0.length = sz := hs r0 (by simp)
     rw [zzn (by rw [h0, zzy]; omega), h0, show (i + 1) * sz + j - sz = i * sz + j by rw [zzy]; omega]
     exact zl8 (fun r hr => hs r (by simp [hr])) (by simpa using hi) hj
theorem zf2 {sz : Nat} : ∀ {rows : List (List U)}, (∀ r ∈ rows, r.length = sz) → rows.flatten.length = rows.length * sz
 | [], _ => by simp
 | r :: rows, hs => by rw [zzd, zzl, zf2 (fun r hr => hs r (by simp [hr])), hs r (by simp), zzg, zzy]; omega
theorem Own.ofL {E : Nat} {l : List Value} (hr : RdL D l rows.flatten) (hs : ∀ r ∈ rows, r.length = sz) (hn : rows.length = n) (hM : n ≤ 9223372036854775807) : Own D E sz (some ⟨b, 0, none⟩) n rows [(b, .cells l.toArray E (0, 0))] := by
 refine .row b n l.toArray rows (fun i j => l.getD (i * sz + j) undef) ?_ (by omega) hs (fun i j r u hi hj => ?_) (fun i j r u hi hj => ?_)
 · rw [z00, hr.len, zf2 hs, hn]
 · obtain ⟨v, hv, -⟩ := hr.get (zl8 hs hi hj)
   simp [hv]
 · obtain ⟨v, hv, h2⟩ := hr.get (zl8 hs hi hj)
   simpa [hv] using h2
theorem RdL.app {a b : List Value} {x y : List U} (h1 : RdL D a x) (h2 : RdL D b y) : RdL D (a ++ b) (x ++ y) := by
 induction h1 with
 | nil => exact h2
 | cons a _ ih => exact .cons a ih
theorem zso {sz : Nat} : ∀ {rows : List (List U)} {i : Nat} {us : List U}, (∀ r ∈ rows, r.length = sz) → i < rows.length → us.length = sz → (rows.set i us).flatten = usp rows.flatten (i * sz) us
 | [], i, us, hs, hi, hu => by simp at hi
 | r :: rows, i, us, hs, hi, hu => by
   have h0 : r.length = sz := hs r (by simp)
   have hl := zf2 hs
   have h1 := z0k sz (show i + 1 ≤ (r :: rows).length from hi)
   rw [zzy] at h1
   rw [zgz _ _ _ (by rw [hl, hu]; exact h1)]
   cases i with
   | zero => simp [hu, ← h0]
   | succ i =>
     rw [z2a, zzd, zso (fun r hr => hs r (by simp [hr])) (by simpa using hi) hu]
     have hl2 := zf2 (rows := rows) (sz := sz) fun r hr => hs r (by simp [hr])
     have h2 := z0k sz (show i + 1 ≤ rows.length by simp at hi; omega)
     rw [zzy] at h2
     rw [zgz _ _ _ (by rw [hl2, hu]; exact h2), zzd]
     rw [show (i + 1) * sz = r.length + i * sz by rw [zzy, h0]; omega]
     rw [List.take_append, z2g]
     simp [z0t, h0]
     have e1 : List.take (sz + i * sz) r = r := z0v (by omega)
     have e2 : List.drop (sz + (i * sz + us.length)) r = [] := z0u (by omega)
     rw [e1, e2, zz7]
theorem zve {l : List Value} {x : List U} (h1 : RdL D l x) (h2 : RdL D vs us) {o : Nat} (ho : o + us.length ≤ x.length) : RdL D (zar l o vs) (usp x o us) := by
 have hl := h1.len
 have hv := h2.len
 have e : zar l o vs = l.take o ++ vs ++ l.drop (o + vs.length) := by
  apply z1a
  intro j
  rw [za2 _ _ _ _ (by omega)]
  have hlo : (l.take o).length = o := by simp; omega
  split
  · rename_i hj; rw [zy8, zy7 (by omega), z3e hj]
  · split
    · rw [zy8, zzn (by omega), hlo, zy7 (by omega)]
    · rw [zzn (by simp; omega), z1d]
      congr 1
      simp [hlo]; omega
 rw [e, zgz _ _ _ ho, hv]
 exact ((h1.split o).1.app h2).app (h1.split _).2
theorem zrk {e : TypeId} {sz : Nat} (hsz : zao P e = sz) : ∀ {ps : List (Nat × V)} {pv : List (Nat × Value)} {rows rows' : List (List U)} {m m' : Mem} {D : Fz} {chs : List zac} {l : List Value}, zno P (hr ++ ro) e rows m ps = some (rows', m') → SAt D ρ m chs C h →
 RdL D l rows.flatten → (∀ r ∈ rows, r.length = sz) → pv.map (·.1) = ps.map (·.1) → RpL D ρ (pv.map (·.2)) (ps.map (·.2)) →
 ∃ D' chs' l', Nx ro hr D ρ m chs D' ρ m' chs' ∧ SAt D' ρ m' chs' C h ∧ RdL D' l' rows'.flatten ∧ (∀ r ∈ rows', r.length = sz) ∧ rows'.length = rows.length ∧ zi8 (fun j => some (j * sz, sz)) l pv = some l'
 | [], pv, rows, rows', m, m', D, chs, l, hs, M, hl, hrs, h1, h2 => by
   cases pv with
   | nil => cases hs; exact ⟨D, chs, l, .refl, M, hl, hrs, rfl, rfl⟩
   | cons _ _ => simp at h1
 | (i, x) :: ps, pv, rows, rows', m, m', D, chs, l, hs, M, hl, hrs, h1, h2 => by
   cases pv with
   | nil => simp at h1
   | cons p pv =>
     obtain ⟨i', v⟩ := p
     simp only [zzj, List.cons.injEq] at h1
     obtain ⟨rfl, h1⟩ := h1
     cases h2 with
     | cons hv h2 =>
       have hv : Rp D ρ v x := hv
       simp only [zno] at hs
       split at hs
       · rename_i xs hxs
         split at hs
         · rename_i us m1 hu
           cases hb : (zyw us.length (zao P e) && zzc (i' + 1) rows.length) with
           | false => rw [hb] at hs; cases hs
           | true =>
             rw [hb] at hs
             simp only [cond_true] at hs
             simp only [zyy] at hb
             have hul := zy1 hb.1
             rw [hsz] at hul
             have hi := zz0 hb.2
             obtain ⟨D1, c1, n1, M1, r1⟩ := zrb hu M (zfk hxs hv)
             have hfl := zf2 hrs
             have hle : i' * sz + us.length ≤ rows.flatten.length := by
              have := z0k sz hi
              rw [zzy] at this
              omega
             have hl1 := zve (hl.mono n1.le) r1 hle
             rw [← zso hrs hi hul] at hl1
             obtain ⟨D2, c2, l', n2, M2, r2, g1, g2, g3⟩ := zrk hsz hs M1 hl1 (fun r hr => by
              rcases z13 hr with hr | rfl
              · exact hrs r hr
              · exact hul) h1 (n1.rpL h2)
             refine ⟨D2, c2, l', n1.trans n2, M2, r2, g1, by simpa using g2, ?_⟩
             have hvl := r1.len
             have hll := hl.len
             have e1 : zyw v.cells.toList.length sz = true := by rw [hvl, hul]; exact Nat.beq_refl _
             simp only [zi8, e1, z1i (show i' * sz + v.cells.toList.length ≤ l.length by omega), Bool.and_self, cond_true]
             exact g3
         · cases hs
       · cases hs
theorem zq3 (hz : zrow P e = some zr) : ∃ i z, P.info? e = some i ∧ i.zero = some z ∧ RdL D z.cells.toList zr := by
 unfold zrow at hz
 cases hi : P.info? e with
 | none => rw [hi] at hz; simp at hz
 | some i =>
   rw [hi] at hz
   cases hzz : i.zero with
   | none => simp [hzz] at hz
   | some z =>
     simp only [Option.bind_some, hzz] at hz
     exact ⟨i, z, rfl, hzz, RpC.toU (ρ := []) hz (zi7 (zfb _))⟩
theorem zhh (z : Array Value) (n sz : Nat) (hz : z.size = sz) : (zzh (n * sz)).map (fun j => z[j % z.size]!) = (zzi n z.toList).flatten := by
 induction n with
 | zero => simp
 | succ n ih =>
   have hl : (zzi n z.toList).flatten.length = n * sz := by simp [hz]
   rw [zzy, List.range_add, zzr, ih, List.replicate_succ', zzs, List.flatten_singleton, zz9]
   congr 1
   apply z2f (by simp [hz])
   intro j h1 h2
   have hj : j < z.size := by simpa using h2
   simp [hz]
   rw [Nat.mod_eq_of_lt (by omega)]
   simp [hj]
theorem zv2 {z : List Value} {zr : List U} (hz : RdL D z zr) : ∀ n, RdL D (zzi n z).flatten (zzi n zr).flatten
 | 0 => .nil
 | n + 1 => by rw [z1k, z1k, zzd, zzd]; exact hz.app (zv2 hz n)
theorem Own.takeN {E c : Nat} (x : Own D E sz a c rows ch) : Own D E sz a c (rows.take n) ch := by
 cases x with
 | nil => rw [z2q]; exact .nil _
 | row b c arr rows v h1 h2 h3 h4 h5 =>
   have key : ∀ {i : Nat} {r : List U}, (rows.take n)[i]? = some r → rows[i]? = some r := fun hi => by
    rw [z0l] at hi
    split at hi
    · exact hi
    · cases hi
   exact .row b c arr _ v h1 (by rw [zz1]; omega) (fun r hr => h3 r (z1r hr)) (fun i j r u hi hj => h4 i j r u (key hi) hj) fun i j r u hi hj => h5 i j r u (key hi) hj
theorem zoo {zs : List Value} {sz j : Nat} (hz : zs.length = sz) (hj : j < sz) : ∀ {n i : Nat}, i < n → (zzi n zs).flatten[i * sz + j]? = zs[j]?
 | 0, i, h => by omega
 | n + 1, 0, h => by rw [z1k, zzd, z11, zze, zy7 (by omega)]
 | n + 1, i + 1, h => by
   rw [z1k, zzd, zzn (by rw [zzy]; omega), show (i + 1) * sz + j - zs.length = i * sz + j by rw [zzy]; omega]
   exact zoo hz hj (by omega)
theorem zxy {zs : List Value} (hz : zs.length = sz) (n : Nat) : (zzi n zs).flatten.length = n * sz := by
 induction n with
 | zero => simp
 | succ n ih => rw [z1k, zzd, zzl, ih, hz, zzy, Nat.add_comm]
theorem Own.fill {E c l : Nat} {zs : List Value} (x : Own D E sz a c rows ch) (S : St D (ch :: C) h) (hz : RdL D zs zr) (hzl : zs.length = sz) (hn : 0 < n) (hln : l + n ≤ rows.length) {K' : zaf → Prop}
 (hK : ∀ ch' h', Own D E sz a c (rows.take l ++ (zzi n zr ++ rows.drop (l + n))) ch' → St D (ch' :: C) h' → K' h') : ∃ b, a = some ⟨b, 0, none⟩ ∧ zd5 b (l * sz) (zzi n zs).flatten 0 h K' := by
 cases x with
 | nil => simp at hln; omega
 | row b c arr rows v h1 h2 h3 h4 h5 =>
   refine ⟨b, rfl, ?_⟩
   obtain ⟨L⟩ := arr
   have hL : L.length = c * sz := by simpa using h1
   have hfl := zxy hzl n
   have hle : (l + n) * sz ≤ L.length := by rw [hL]; exact z0k _ (by omega)
   rw [z0j] at hle
   refine S.st0 (z1i (by rw [hfl]; omega)) (z0d.2 fun u hu => ?_) fun h' S' => ?_
   · obtain ⟨r, hr, hu⟩ := List.mem_flatten.1 hu
     rw [z14 hr] at hu
     exact hz.single u hu
   · have hlen : (rows.take l ++ (zzi n zr ++ rows.drop (l + n))).length = rows.length := by simp; omega
     refine hK _ h' (.row b c _ _ (fun i j => if i < l then v i j else if i < l + n then zs.getD j undef else v i j) ?_ (by rw [hlen]; exact h2) ?_ ?_ ?_) S'
     · simp only [z00, zat]; exact hL
     · intro r hr
       rcases zy6.1 hr with hr | hr
       · exact h3 r (z1r hr)
       · rcases zy6.1 hr with hr | hr
         · rw [z14 hr, ← hz.len, hzl]
         · exact h3 r (z1s hr)
     · intro i j r u hi hj
       have hlen2 : (rows.take l).length = l := by rw [zz1]; omega
       simp only [z0a]
       rw [za2 _ _ _ _ (by rw [hfl]; omega), hfl]
       by_cases hi1 : i < l
       · rw [zy7 (by omega), z0l, if_pos hi1] at hi
         have hjs : j < sz := by rw [← h3 r (zy4 hi)]; exact (zyz.1 hj).1
         have : i * sz + j < l * sz := by have := z0k sz (show i + 1 ≤ l by omega); rw [zzy] at this; omega
         rw [if_pos (by omega), if_pos hi1]
         simpa using h4 i j r u hi hj
       · rw [zzn (by omega), hlen2] at hi
         have hge : l * sz ≤ i * sz := z0k _ (by omega)
         rw [if_neg (by omega), if_neg hi1]
         by_cases hi2 : i < l + n
         · rw [zy7 (by simp; omega)] at hi
           have hr := zy4 hi
           have := z14 hr
           subst this
           have hjs : j < sz := by rw [← hzl, hz.len]; exact (zyz.1 hj).1
           have hlt : i * sz + j < l * sz + n * sz := by have := z0k sz (show i + 1 ≤ l + n by omega); rw [zzy, z0j] at this; omega
           rw [if_pos (by omega), if_pos hi2]
           have e1 : i * sz + j - (l * sz + 0) = (i - l) * sz + j := by rw [Nat.sub_mul]; omega
           rw [e1]
           rw [zoo hzl hjs (by omega)]
           have : j < zs.length := by omega
           rw [zy0 this, z07, zy0 this]; rfl
         · rw [zzn (by simp; omega), z1d] at hi
           have e : l + n + (i - l - (zzi n zr).length) = i := by simp; omega
           rw [e] at hi
           have hge2 : l * sz + n * sz ≤ i * sz := by have := z0k sz (show l + n ≤ i by omega); rw [z0j] at this; omega
           rw [if_neg (by omega), if_neg hi2]
           simpa using h4 i j r u hi hj
     · intro i j r u hi hj
       have hlen2 : (rows.take l).length = l := by rw [zz1]; omega
       by_cases hi1 : i < l
       · rw [zy7 (by omega), z0l, if_pos hi1] at hi
         simp only [if_pos hi1]; exact h5 i j r u hi hj
       · rw [zzn (by omega), hlen2] at hi
         simp only [if_neg hi1]
         by_cases hi2 : i < l + n
         · rw [zy7 (by simp; omega)] at hi
           have := z14 (zy4 hi)
           subst this
           simp only [if_pos hi2]
           obtain ⟨w, hw, hr⟩ := hz.get hj
           rw [z07, hw]; exact hr
         · rw [zzn (by simp; omega), z1d] at hi
           have e : l + n + (i - l - (zzi n zr).length) = i := by simp; omega
           rw [e] at hi
           simp only [if_neg hi2]; exact h5 i j r u hi hj
theorem zs4 {S E : Nat} {a2 : Option Addr} {m cx : Nat} {r r2 : List (List U)} (ty : ElTy P S E sz) (hn : n = r.length) (src1 : Src D h sz a r) (M : St D CC h) (src : Src D h sz a2 r2) (hm : m = r2.length) (hne : r2 ≠ []) (hb : r.length + r2.length ≤ 1000000)
 (hK : ∀ a' c' ch' h', Own D E sz a' c' (r ++ r2) ch' → St D (ch' :: CC) h' → K (.slice a' (r ++ r2).length c') h') : zqy P #[S, S] S (.slice a n n) (.slice a2 m cx) h K := by
 obtain ⟨hu, i, z, hi, hsz, hby, hby2, hz, hzs⟩ := ty
 subst hm hn
 subst hsz
 obtain ⟨hs1, hsrc1⟩ := src1
 obtain ⟨hs2, hsrc2⟩ := src
 obtain ⟨b2, o2, w2, rfl, hw2⟩ := hsrc2.resolve_left hne
 have hpos : 0 < r2.length := List.length_pos_iff.2 hne
 have new : ∀ j v, (cellsOf r2.length i.size w2)[j]? = some v → hcell h ⟨b2, o2 + j, none⟩ = some v := fun j x hx => by
  obtain ⟨k, t, hk, ht, rfl, rfl⟩ := zcw hx
  have hr2 : r2[k].length = i.size := hs2 _ (by simp)
  have := (hw2 k t r2[k] r2[k][t] (by simp [hk]) (by simp [hr2, ht])).1
  rw [← this, z0t]
 have old : ∃ w1 : Nat → Nat → Value, (∀ i' j u r', r[i']? = some r' → r'[j]? = some u → Rd D (w1 i' j) u) ∧ ∀ {K' : Array Value → zaf → Prop}, K' (cellsOf r.length i.size w1).toArray h → SWp P (Builtin.firstCells i.size r.length (.slice a r.length r.length)) h K' := by
  rcases hsrc1 with rfl | ⟨b1, o1, w1, rfl, hw1⟩
  · refine ⟨fun _ _ => undef, by simp, fun hK' => ?_⟩
    cases a with
    | none => exact hK'
    | some ad =>
      show SWp P (loadCells ad (0 * i.size)) h _
      rw [z11]; exact hK'
  · refine ⟨w1, fun i' j u r' h1 h2 => (hw1 i' j r' u h1 h2).2, fun hK' => ?_⟩
    show SWp P (loadCells ⟨b1, o1, none⟩ (r.length * i.size)) h _
    rw [← zb3 r.length i.size w1]
    refine zbg (fun j x hx => ?_) (by simpa using hK')
    obtain ⟨k, t, hk, ht, rfl, rfl⟩ := zcw hx
    have hr1 : r[k].length = i.size := hs1 _ (by simp)
    have := (hw1 k t r[k] r[k][t] (by simp [hk]) (by simp [hr1, ht])).1
    rw [← this, zze, z0t]
 obtain ⟨w1, hr1, old⟩ := old
 unfold zqy
 have hfc : ∀ {K' : Array Value → zaf → Prop}, K' (cellsOf r2.length i.size w2).toArray h → SWp P (Builtin.firstCells i.size r2.length (.slice (some ⟨b2, o2, none⟩) r2.length cx)) h K' := by
  intro K' hK'
  show SWp P (loadCells ⟨b2, o2, none⟩ (r2.length * i.size)) h K'
  rw [← zb3 r2.length i.size w2]
  exact zbg (fun j v hv => by simpa using new j v hv) (by simpa using hK')
 show SWp P (underlying S >>= _) h K
 refine zab (zaq hu ?_)
 refine zab (zck hi ?_)
 refine zab (zab (zaq hu ?_))
 refine zab ?_
 show SWp P (Builtin.lenOf (.slice (some ⟨b2, o2, none⟩) r2.length cx) >>= _) h K
 refine zab ?_
 show SWp P (if r.length + r2.length ≤ r.length then _ else _) h K
 rw [if_neg (by omega)]
 refine zab (zas hi ?_)
 rw [if_neg (by rintro ⟨-, h1 | h1⟩; exact absurd h1 (by simp); exact hby h1)]
 refine zab ?_
 refine zab (zas hi ?_)
 have hcap2 : ¬ Builtin.nextslicecap (r.length + r2.length) r.length * i.bytes > 2 ^ 48 := by
  have h1 := zco (n := r.length + r2.length) (c := r.length) (by omega)
  have h2 := Nat.mul_le_mul h1 hby2
  omega
 rw [if_neg hcap2]
 refine zab ?_
 refine ⟨fun hf => (by cases hf), fun _ t => ?_⟩
 have hge : r.length + r2.length ≤ (Question.appendCap (r.length + r2.length) r.length E).cut t ∧ (Question.appendCap (r.length + r2.length) r.length E).cut t ≤ 9223372036854775807 := by
  have := Nat.mod_lt t (show 2 ^ 63 - (r.length + r2.length) > 0 by omega)
  simp only [Question.cut]
  omega
 generalize (Question.appendCap (r.length + r2.length) r.length E).cut t = c' at hge ⊢
 refine zab (zas hi ?_)
 refine zab (zdz ?_)
 refine zab (old ?_)
 refine zab ?_
 show SWp P (Builtin.firstCells i.size r2.length (.slice (some ⟨b2, o2, none⟩) r2.length cx)) h _
 refine hfc ?_
 refine zab (zf8 hi hz ?_)
 show zr2 h (.cells ((cellsOf r.length i.size w1).toArray ++ (cellsOf r2.length i.size w2).toArray ++ Builtin.zeroCells z.cells (c' - (r.length + r2.length))) E) (fun b h1 => K (.slice (some ⟨b, 0, none⟩) (r.length + r2.length) c') h1)
 refine M.new fun b h1 S1 => ?_
 rw [← zzl]
 refine hK _ _ _ _ (.row b c' _ (r ++ r2) (fun i' j => if i' < r.length then w1 i' j else w2 (i' - r.length) j) ?_ (by simpa using hge) (fun q hq => (zy6.1 hq).elim (hs1 q) (hs2 q)) ?_ ?_) S1
 · simp only [Array.size_append, z00, Builtin.zeroCells, Array.size_map, Array.size_range, zb3, hzs]
   rw [← z0j, ← z0j, show r.length + r2.length + (c' - (r.length + r2.length)) = c' by omega]
 · intro k j q u hk hj
   have e1 := (zyz.1 hk).1
   have e2 := (zyz.1 hj).1
   rw [(zy6.1 (zy4 hk)).elim (hs1 q) (hs2 q)] at e2
   have := zjd (n := (r ++ r2).length) (sz := i.size) (fun i' j => if i' < r.length then w1 i' j else w2 (i' - r.length) j) e1 e2
   rw [zzl, ← zje] at this
   have hlt := (zyz.1 this).1
   rw [z10 (by simpa using hlt)]
   simpa using this
 · intro k j q u hk hj
   by_cases hkl : k < r.length
   · rw [zy7 hkl] at hk
     simp only [if_pos hkl]; exact hr1 k j u q hk hj
   · rw [zzn (by omega)] at hk
     simp only [if_neg hkl]; exact (hw2 _ j q u hk hj).2
theorem app_cap {S E : Nat} {a2 : Option Addr} {m cx : Nat} {r r2 : List (List U)} (ty : ElTy P S E sz) (hx : Rd D (.slice a n n) (.l sz r)) (M : St D CC h) (src : Src D h sz a2 r2) (hm : m = r2.length) (hne : r2 ≠ []) (hb : r.length + r2.length ≤ 1000000)
 (hK : ∀ a' c' ch' h', Own D E sz a' c' (r ++ r2) ch' → St D (ch' :: CC) h' → K (.slice a' (r ++ r2).length c') h') : zqy P #[S, S] S (.slice a n n) (.slice a2 m cx) h K :=
 zs4 ty hx.len.1 (hx.src M) M src hm hne hb hK
def RWp {α : Type} (P : Program) (s : Sem α) (h : zaf) (K : α → zaf → Prop) : Prop := ∀ w : World, w.heap = h → ∃ a w', s.run P w = .ok a w' ∧ K a w'.heap ∧ Same w w'
theorem SWp.r {α : Type} {s : Sem α} {K : α → zaf → Prop} (hs : SWp P s h K) : RWp P s h K := fun w hw => SWp.sound hs w hw
theorem zew {t : List Value} {h : zaf} (hh : RWp P (execOp (ev t) o) h (zlt P K)) {a : Act} (ha : a.eval = ev t) (hw : w.heap = h)
 {next : Act → World → Prop} (hn : ∀ v w', K v w'.heap → Same w w' → next (a.put o.dst v) w') : o.wp P a w next Q := by
 obtain ⟨n, w', hr, hK, hS⟩ := hh w hw
 unfold Oper.wp
 rw [ha, hr]
 cases n <;> simp only [zlt] at hK
 case value v => exact hn _ _ hK hS
 case skip => exact hn _ _ hK hS
 case enter f args =>
  have h1 := hK.2 w' rfl
  simp only [z0n] at h1
  exact h1.mono fun e w'' ⟨v, he, hv, hS'⟩ => by subst he; exact hn _ _ hv (hS.trans hS')
theorem MRel.set {rows : List (MK × List U)} (hr : MRel D ag mv rows) (k : MK) (h1 : RdL D vs us) (h2 : cond ag (v = .agg vs.toArray) (vs = [v])) : MRel D ag (zul mv k v) (za1 rows k us) := by
 induction hr with
 | nil => exact .cons h1 h2 .nil
 | cons a b c ih =>
   rename_i k' v' us' vs' m rows
   simp only [zul, za1]
   by_cases hk : k' = k
   · simp only [hk, if_true]; exact .cons h1 h2 c
   · simp only [hk, if_false]; exact .cons a b ih
theorem MRel.del {rows : List (MK × List U)} (hr : MRel D ag mv rows) (k : MK) : MRel D ag (ztv mv k) (zdj rows k) := by
 induction hr with
 | nil => exact .nil
 | cons a b c ih =>
   rename_i k' v' us' vs' m rows
   simp only [ztv, zdj]
   by_cases hk : k' = k
   · simp only [hk, if_true]; exact c
   · simp only [hk, if_false]; exact .cons a b ih
theorem zrn {sz : Nat} {k : MK} {us : List U} (hu : us.length = sz) : ∀ {rows : List (MK × List U)}, (∀ r ∈ rows, r.2.length = sz) → ∀ r ∈ za1 rows k us, r.2.length = sz
 | [], _, r, hr => by simp [za1] at hr; subst hr; exact hu
 | q :: rows, h, r, hr => by
   simp only [za1] at hr
   split at hr
   · rcases zy3.1 hr with rfl | hr
     · exact hu
     · exact h r (by simp [hr])
   · rcases zy3.1 hr with rfl | hr
     · exact h _ (by simp)
     · exact zrn hu (fun r' h' => h r' (by simp [h'])) r hr
theorem zlb (k : MK) : ∀ (rows : List (MK × List U)), ∀ r ∈ zdj rows k, r ∈ rows
 | [], r, hr => hr
 | q :: rows, r, hr => by
   simp only [zdj] at hr
   split at hr
   · exact zzo _ hr
   · rcases zy3.1 hr with rfl | hr
     · exact zzq
     · exact zzo _ (zlb k rows r hr)
theorem ag_S {E : TypeId} (ha : zq0 P E x = true) (hv : Rp D ρ v x) (hc : ∃ xs, zkt x = some xs) : cond (isAg P E) (v = .agg v.cells.toList.toArray) (v.cells.toList = [v]) := by
 unfold zq0 at ha
 unfold isAg
 split at ha
 · rename_i h1
   rw [h1]
   obtain ⟨vs, rfl, -⟩ := hv.a_inv
   simp [Value.cells]
 · cases ha
 · rename_i hl hx
   rw [hl]
   simp only [cond_false]
   obtain ⟨xs, hc⟩ := hc
   cases hv with
   | a h => exact absurd rfl (hx _)
   | z => cases hc
   | t h => cases hc
   | u h => cases h <;> rfl
   | _ => rfl
 · cases ha
theorem KB.setb {o : Obj} : KB [b] h (h.setIfInBounds b o) := ⟨by simp, fun c _ hc => by
 rw [Array.getElem?_setIfInBounds_ne]; simp at hc; exact fun e => hc e.symm⟩
theorem SAt.mapPut (M : SAt D ρ m chs C h) {es es' : Array MapEntry} {clk clk' : Nat} {kt : KT} {rows : List (MK × List U)} (hL : ρ[b]? = some L) (hc : chs[b]? = some [(L.b, .map es clk)])
 (I : MpI kt es' clk' mv) (R : MRel D ag mv rows) (hl : ∀ r ∈ rows, r.2.length = sz) : SAt D ρ (ms m b (.p kt sz ag rows)) (chs.set b [(L.b, .map es' clk')]) C (h.setIfInBounds L.b (.map es' clk')) := by
 have S := M.front hc
 have hb : h[L.b]? = some (.map es clk) := S.get (zzx _)
 have S' : St D ([(L.b, .map es' clk')] :: (chs ++ C).eraseIdx b) (h.setIfInBounds L.b (.map es' clk')) := S.upd .setb (by simp [zbv hb]) (by simp) (by simp)
 exact M.put hL hc S' (.refl D) (.p I R hl)
theorem mapUpd_S {k v : V} {vx vk vv : Value} {KS : Mem → Prop} (hs : zp7 P (hr ++ ro) S x k v m KS) (M : SAt D ρ m chs C h) (hx : Rp D ρ vx x) (hk : Rp D ρ vk k) (hv : Rp D ρ vv v) :
 RWp P (Instr.mapUpdate S vx vk vv) h fun _ h' => ∃ D' m' chs', Nx ro hr D ρ m chs D' ρ m' chs' ∧ SAt D' ρ m' chs' C h' ∧ KS m' := by
 unfold zp7 at hs
 split at hs
 · rename_i kt zs E zv k' b ht hk'
   obtain ⟨K, i, z, hT, hkt, hz, hi, hzz, rfl⟩ := zn1 ht
   obtain ⟨hc0, hs1⟩ := zaa hs
   clear hs
   simp only [zyy, zzt] at hc0
   have hvk := zr3 hk' hk
   subst hvk
   split at hs1
   · rename_i xs hvc
     have hcx := zfk hvc hv
     have hnx := zea (P := P) (S := E) hv
     split at hs1
     · rename_i us m1 hu
       obtain ⟨D1, chs1, n1, M1, r1⟩ := zrb hu M hcx
       split at hs1
       · rename_i kt' sz ag rows hm
         obtain ⟨hc, hs2⟩ := zaa hs1
         clear hs1
         simp only [zyy, beq_iff_eq] at hc
         obtain ⟨⟨⟨⟨c1, c2⟩, c3⟩, c4⟩, c5⟩ := hc
         have := zfw c1
         subst this
         subst c3
         have hag := ag_S c5 hnx ⟨xs, hvc⟩
         obtain ⟨L, ch, g1, g2, g3⟩ := M1.get (b := b) (by rw [hm]; simp)
         rw [hm] at g3
         cases hx with
         | m hL =>
           rw [g1] at hL; cases hL
           cases g3 with
           | p I R hl =>
             rename_i es clk mv
             intro w hw
             have hb : w.heap[L.b]? = some (.map es clk) := by rw [hw]; exact M1.own g2 (zzx _)
             obtain ⟨es', clk', hrun, I'⟩ := run_upd (P := P) hT hkt hb I hc0.1 vv
             have M2 := M1.mapPut g1 g2 I' (R.set k' r1 hag) (zrn (zy1 c4) hl)
             rw [← hw] at M2
             exact ⟨_, _, hrun, ⟨D1, _, _, n1.trans (.set (.refl D1) hc0.2), M2, hs2⟩, ⟨rfl, rfl, rfl, zy9 _⟩⟩
       · exact hs1.elim
     · exact hs1.elim
   · exact hs1.elim
 · exact hs.elim
theorem mapDel_S {S' : TypeId} {k : V} {vx vk : Value} {KS : Mem → Prop} (hs : zp8 P (hr ++ ro) S S' x k m KS) (M : SAt D ρ m chs C h) (hx : Rp D ρ vx x) (hk : Rp D ρ vk k) :
 RWp P (Builtin.delete_ #[S, S'] ty #[vx, vk]) h fun v h' => v = .tuple #[] ∧ ∃ m' chs', Nx ro hr D ρ m chs D ρ m' chs' ∧ SAt D ρ m' chs' C h' ∧ KS m' := by
 unfold zp8 at hs
 split at hs
 · rename_i K1 E kt k' b hT hkt hk'
   obtain ⟨hc0, hs1⟩ := zaa hs
   clear hs
   simp only [zyy, zzt] at hc0
   have := zy1 hc0.1.1
   subst this
   have hvk := zr3 hk' hk
   subst hvk
   split at hs1
   · rename_i kt' sz ag rows hm
     obtain ⟨c1, hs2⟩ := zaa hs1
     clear hs1
     have := zfw c1
     subst this
     obtain ⟨L, ch, g1, g2, g3⟩ := M.get (b := b) (by rw [hm]; simp)
     rw [hm] at g3
     cases hx with
     | m hL =>
       rw [g1] at hL; cases hL
       cases g3 with
       | p I R hl =>
         rename_i es clk mv
         intro w hw
         have hb : w.heap[L.b]? = some (.map es clk) := by rw [hw]; exact M.own g2 (zzx _)
         obtain ⟨es', hrun, I'⟩ := run_del (P := P) (ty := ty) hT hkt hb I hc0.1.2
         have M2 := M.mapPut g1 g2 I' (R.del k') fun r hr => hl r (zlb _ _ r hr)
         rw [← hw] at M2
         exact ⟨_, _, hrun, ⟨rfl, _, _, .set (.refl D) hc0.2, M2, hs2⟩, ⟨rfl, rfl, rfl, zy9 _⟩⟩
   · exact hs1.elim
 · rename_i K1 E kt k' hT hkt hk'
   obtain ⟨hc0, hs1⟩ := zaa hs
   simp only [zyy] at hc0
   have := zy1 hc0.1
   subst this
   have hvk := zr3 hk' hk
   subst hvk
   cases hx
   intro w hw
   refine ⟨.tuple #[], w, ?_, ⟨rfl, m, chs, .refl, hw ▸ M, hs1⟩, .refl w⟩
   simp [Builtin.delete_, run_underlying hT, zb0 hkt hc0.2, Result.andThen]
 · exact hs.elim
theorem zqf (hk : isSg x = true) (hv : Rp D ρ v x) : single v = true := by
 cases hv with
 | u hr => cases hr <;> rfl
 | a => cases hk
 | t => cases hk
 | z => cases hk
 | _ => rfl
theorem zeg : ∀ {xs : List V} {vs : List Value}, xs.all isSg = true → RpC D ρ vs xs → ∀ v ∈ vs, single v = true
 | [], _, _, hr => by cases hr; simp
 | x :: xs, _, hk, hr => by
   simp only [z1g, zyy] at hk
   cases hr with
   | cons a n b =>
     intro v hv
     rcases zy3.1 hv with rfl | hv
     · exact zqf hk.1 a
     · exact zeg hk.2 b v hv
   | n hl b =>
     intro v hv
     rcases zy6.1 hv with hv | hv
     · obtain ⟨_, _, rfl⟩ := zzu.1 hv; rfl
     · exact zeg hk.2 b v hv
theorem zpq {q l : List Value} (h : ∀ (j : Nat) (v : Value), q[j]? = some v → l[j]? = some v) : ∃ r, l = q ++ r := by
 refine ⟨l.drop q.length, ?_⟩
 apply z1a
 intro j
 by_cases hj : j < q.length
 · rw [zy7 hj, zy0 hj]
   exact h j _ (zy0 hj)
 · rw [zzn (by omega), z1d, show q.length + (j - q.length) = j by omega]
theorem app_cw {S e c k cx b2 o2 : Nat} {cs new : List Value} (ty : ElTy P S e (zao P e)) (os : OwnS 0 e (zao P e) h a n c cs) (hids : ch.map (·.1) = zuk a) (St0 : St D (ch :: CC) h)
 (hk : k ≠ 0) (hnew : ∀ j v, new[j]? = some v → hcell h ⟨b2, o2 + j, none⟩ = some v) (hlen : new.length = k * zao P e) (hsg : ∀ v ∈ new, single v = true) (hbd : n + k ≤ 1000000)
 (hK : ∀ b' c' ps h', ((cs ++ new) ++ ps).length = c' * zao P e → (cs ++ new).length = (n + k) * zao P e → n + k ≤ c' ∧ c' ≤ 9223372036854775807 → St D ([(b', .cells ((cs ++ new) ++ ps).toArray e (0, 0))] :: CC) h' → K (.slice (some ⟨b', 0, none⟩) (n + k) c') h') :
 zqy P #[S, S] S (.slice a n c) (.slice (some ⟨b2, o2, none⟩) k cx) h K := by
 obtain ⟨hT, i, z, hi, hsz, hby, hby2, hz, hzs⟩ := ty
 rw [← hsz] at os hlen hzs
 have hb2 : (2 * (n + k) + 512) * i.bytes ≤ 281474976710656 := by
  have := Nat.mul_le_mul (show 2 * (n + k) + 512 ≤ 2000512 by omega) hby2
  omega
 refine zym (P := P) (T := S) (E := e) (B := 0) (new := new) hT hi hz hzs hby os (zzv _) hnew hlen hsg hb2 fun a' c' h' os' k' hmv => ?_
 rcases os' with ⟨-, h0, -⟩ | ⟨b', l, rfl, -, g2, g3, g4, g5, g6⟩
 · omega
 · obtain ⟨ps, hps⟩ := zpq (q := cs ++ new) (l := l.toList) fun j v hj => by simpa using g6 j v hj
   have hl : l = ((cs ++ new) ++ ps).toArray := by rw [← hps]
   subst hl
   refine hK b' c' ps h' (by rw [← hsz]; simpa using g3) (by rw [← hsz]; exact g5) g4 (St0.upd (by rw [hids]; exact k') (by simpa using g2) (by simp) fun p hp => ?_)
   rw [hids]
   simp only [z0s] at hp
   subst hp
   exact hmv b' 0 rfl
theorem appCS_S {y : V} {vx vy : Value} (ty : ElTy P S e (zao P e)) (hs : appCS P (hr ++ ro) e x y m KS) (M : SAt D ρ m chs C h) (hx : Rp D ρ vx x) (hy : Rp D ρ vy y) : zqy P #[S, S] S vx vy h (zcx ro hr D ρ m chs C KS) := by
 unfold appCS at hs
 split at hs
 · rename_i b2 o n
   split at hs
   · rename_i cells hm2
     split at hs
     · rename_i l hd
       split at hs
       · rename_i new hp
         obtain ⟨hc, hs1⟩ := zaa hs
         clear hs
         have hs := hs1
         clear hs1
         simp only [zyy, zzt] at hc
         have hn : n ≠ 0 := fun h0 => by rw [h0] at hc; simp at hc
         obtain ⟨L2, a2, cap2, hL2, ha2, -, rfl⟩ := hy.sl_inv
         obtain ⟨L2', ch2, g1, g2, g3⟩ := M.get (b := b2) (by rw [hm2]; simp)
         rw [hL2] at g1; cases g1
         rw [hm2] at g3
         cases g3 with
         | c hcc =>
           rename_i arr S'
           obtain ⟨p, s, rfl, hpl, hr1⟩ := zcu hd hcc
           obtain ⟨p2, s2, rfl, hp2, hr2⟩ := zlh hp hr1
           have ha2 := ha2 (by omega)
           subst ha2
           have hcell : ∀ j v, p2[j]? = some v → hcell h ⟨L2.b, o + j, none⟩ = some v := fun j v hj => by
            rw [zaz (M.own g2 (zzx _))]
            simp only [z0a]
            rw [zzn (by omega), show o + j - p.length = j by omega]
            exact zai hj
           have hsg := zeg hc.1 hr2
           split at hs
           · cases hx
             obtain ⟨hb, hK⟩ := zaa hs
             have hb := zz0 hb
             refine app_cw ty (.nil _ _ _ _) (ch := []) rfl M.st.nil hn hcell hp2 hsg hb fun b' c' ps h' q1 q2 q3 S1 => ?_
             simp only [zz7, zze] at q1 q2 q3 S1 ⊢
             refine ⟨D, ρ ++ [⟨0, some ⟨b', 0, none⟩, n, c', none⟩], _, chs ++ [_], _, .push M (.refl D), M.new S1 (.refl D) (.cw rfl rfl (hr2.mono (.refl D) _) q2 q1 q3), .w (L := ⟨0, some ⟨b', 0, none⟩, n, c', none⟩) ?_, hK⟩
             rw [← M.len]; simp
           · rename_i b
             cases hb : inL (hr ++ ro) b with
             | true => rw [hb] at hs; exact hs.elim
             | false =>
               rw [hb] at hs
               simp only [cond_false] at hs
               split at hs
               · rename_i e' s' k old hm
                 obtain ⟨hc3, hK⟩ := zaa hs
                 simp only [zyy] at hc3
                 have e1 := zy1 hc3.1.1
                 have e2 := zy1 hc3.1.2
                 have e3 := zz0 hc3.2
                 subst e1 e2
                 obtain ⟨L, hL, rfl⟩ := hx.w_inv
                 obtain ⟨L', ch, h1, h2, h3⟩ := M.get (b := b) (by rw [hm]; simp)
                 rw [hL] at h1; cases h1
                 rw [hm] at h3
                 cases h3 with
                 | @cw _ _ _ bb vs ps _ hA hN hcc3 hlen h5 h6 =>
                   rw [hA, hN]
                   have os : OwnS 0 e (zao P e) h (some ⟨bb, 0, none⟩) k L.c vs := .inr ⟨bb, _, rfl, zzv _, M.own h2 (zzx _), by simpa using h5, h6, hlen, fun j v hj => by simp only [z0a]; exact zai hj⟩
                   refine app_cw ty os rfl (M.front h2) hn hcell hp2 hsg e3 fun b' c' ps' h' q1 q2 q3 S1 => ?_
                   have hlt := (zyz.1 h2).1
                   generalize hch : [(b', Obj.cells ((vs ++ p2) ++ ps').toArray e (0, 0))] = ch' at S1
                   have S2 : St D ([] :: ((chs ++ (ch' :: C)).eraseIdx b)) h' := by
                    rw [z02 hlt]
                    rw [z02 hlt] at S1
                    exact S1.mid.nil
                   have M1 := M.put hL h2 S2 (.refl D) .x
                   have he : Ent D (ρ ++ [⟨0, some ⟨b', 0, none⟩, k + n, c', none⟩]) ⟨0, some ⟨b', 0, none⟩, k + n, c', none⟩ (.cw e (zao P e) (k + n) (old ++ new)) ch' := by
                    rw [← hch]
                    exact .cw rfl rfl (RpC.mono (.refl D) _ (hcc3.app hr2)) q2 q1 q3
                   have M2 := M1.push he
                   refine ⟨D, _, _, _, _, (Nx.set (.refl D) hb).trans (.push M1 (.refl D)), M2, .w (L := ⟨0, some ⟨b', 0, none⟩, k + n, c', none⟩) ?_, hK⟩
                   rw [← M.len]; simp
               · exact hs.elim
           · exact hs.elim
       · exact hs.elim
     · exact hs.elim
   · exact hs.elim
 · exact hs.elim
theorem appS_S {R : TypeId} {y : V} {vx vy : Value} (hs : appS P (hr ++ ro) S x y m KS) (M : SAt D ρ m chs C h) (hx : Rp D ρ vx x) (hy : Rp D ρ vy y) : zqy P #[S, S] S vx vy h (zcx ro hr D ρ m chs C KS) := by
 unfold appS at hs
 split at hs
 · rename_i e hu
   obtain ⟨hty, hs2⟩ := zaa hs
   clear hs
   have ty := ElTy.of hty
   obtain ⟨hT, i, z, hi, hsz, hby, hby2, hz, hzs⟩ := ty
   split at hs2
   · -- of nothing
     cases hy
     split at hs2
     · cases hx
       exact zfg (E := e) hT hi (zy9 _) ⟨D, ρ, m, chs, _, .refl, M, .nl, hs2⟩
     · obtain ⟨a, c, rfl, hr⟩ := hx.l_inv
       exact zfg (E := e) hT hi hr.len.2 ⟨D, ρ, m, chs, _, .refl, M, hx, hs2⟩
     · obtain ⟨a, rfl, hr⟩ := hx.c_inv
       exact zfg (E := e) hT hi (zy9 _) ⟨D, ρ, m, chs, _, .refl, M, hx, hs2⟩
     · obtain ⟨L, a, cap, g1, g2, g3, g4, g5, g6, g7, rfl⟩ := hx.v_inv
       exact zfg (E := e) hT hi g5 ⟨D, ρ, m, chs, _, .refl, M, hx, hs2⟩
     · exact hs2.elim
   · split at hs2
     · rename_i s new hsrc
       obtain ⟨hse, hs3⟩ := zaa hs2
       clear hs2
       have := zy1 hse
       subst this
       obtain ⟨a2, c2, rfl, src⟩ := srcS_S hsrc M hy
       have ty : ElTy P S e (zao P e) := ⟨hT, i, z, hi, hsz, hby, hby2, hz, hzs⟩
       split at hs3
       · cases hx
         obtain ⟨hb, hK⟩ := hs3
         refine app_w ty (.nil _) M.st.nil src rfl rfl hb fun a' c' ch' h' own' S' => ?_
         refine ⟨D, ρ ++ [⟨0, a', new.length, c', none⟩], _, chs ++ [ch'], _, .push M (.refl D), M.new S' (.refl D) (.w own' rfl), .w (L := ⟨0, a', new.length, c', none⟩) ?_, hK⟩
         rw [← M.len]; simp
       · rename_i b
         cases hb : inL (hr ++ ro) b with
         | true => rw [hb] at hs3; exact hs3.elim
         | false =>
           rw [hb] at hs3
           simp only [cond_false] at hs3
           split at hs3
           · rename_i e' s' rows hm
             obtain ⟨hc, hok, hK⟩ := zaa hs3
             simp only [zyy] at hc
             have e1 := zy1 hc.1
             have e2 := zy1 hc.2
             subst e1 e2
             obtain ⟨L, hL, rfl⟩ := hx.w_inv
             obtain ⟨L', ch, h1, h2, h3⟩ := M.get (b := b) (by rw [hm]; simp)
             rw [hL] at h1; cases h1
             rw [hm] at h3
             cases h3 with
             | w own hn =>
               refine app_w ty own (M.front h2) src hn rfl hok fun a' c' ch' h' own' S' => ?_
               have hlt := (zyz.1 h2).1
               have S2 : St D ([] :: ((chs ++ (ch' :: C)).eraseIdx b)) h' := by
                rw [z02 hlt]
                rw [z02 hlt] at S'
                exact S'.mid.nil
               have M1 := M.put hL h2 S2 (.refl D) .x
               have M2 := M1.push (L := ⟨0, a', (rows ++ new).length, c', none⟩) (ab := .w e (zao P e) (rows ++ new)) (.w own' rfl)
               refine ⟨D, _, _, _, _, (Nx.set (.refl D) hb).trans (.push M1 (.refl D)), M2, .w (L := ⟨0, a', (rows ++ new).length, c', none⟩) ?_, hK⟩
               rw [← M.len]; simp
           · exact hs3.elim
       · rename_i s' rows
         obtain ⟨hc, hok, hK⟩ := zaa hs3
         have e2 := zy1 hc
         subst e2
         obtain ⟨a, rfl, hrd⟩ := hx.c_inv
         split at hK
         · rename_i r0 new'
           refine app_cap ty hrd M.st src rfl (by simp) hok fun a' c' ch' h' own' S' => ?_
           refine ⟨D, ρ ++ [⟨0, a', (rows ++ (r0 :: new')).length, c', none⟩], _, chs ++ [ch'], _, .push M (.refl D), M.new S' (.refl D) (.w own' rfl), .w (L := ⟨0, a', (rows ++ (r0 :: new')).length, c', none⟩) ?_, hK⟩
           rw [← M.len]; simp
         · exact zfg (E := e) hT hi (zy9 _) ⟨D, ρ, m, chs, _, .refl, M, hx, hK⟩
       · rename_i b s' l n c
         obtain ⟨hc, hs3⟩ := zaa hs3
         have e2 := zy1 hc
         subst e2
         split at hs3
         · rename_i e' s2 rows hm
           obtain ⟨hc2, hs4⟩ := zaa hs3
           clear hs3
           simp only [zyy] at hc2
           have e1 := zy1 hc2.1
           have e3 := zy1 hc2.2
           subst e1 e3
           obtain ⟨L, a, cap, g1, g2, g3, g4, g5, g6, g7, rfl⟩ := hx.v_inv
           split at hs4
           · exact zfg (E := e) hT hi g5 ⟨D, ρ, m, chs, _, .refl, M, hx, hs4⟩
           · rename_i r0 new'
             obtain ⟨L', ch, h1, h2, h3⟩ := M.get (b := b) (by rw [hm]; simp)
             rw [g1] at h1; cases h1
             rw [hm] at h3
             cases h3 with
             | w own hn =>
               cases c with
               | true =>
                 simp only [cond_true] at hs4
                 obtain ⟨hok, hK⟩ := hs4
                 have hcap := (g6 rfl).symm
                 subst hcap
                 have sp := (own.src fun p hp => M.own h2 hp).part (by omega) g4
                 have hpl : n = ((rows.drop l).take n).length := by rw [zz1, z1j, Nat.min_eq_left (by omega)]
                 refine zs4 ty hpl sp M.st src rfl (by simp) hok fun a' c' ch' h' own' S' => ?_
                 refine ⟨D, ρ ++ [⟨0, a', ((rows.drop l).take n ++ (r0 :: new')).length, c', none⟩], _, chs ++ [ch'], _, .push M (.refl D), M.new S' (.refl D) (.w own' rfl), .w (L := ⟨0, a', ((rows.drop l).take n ++ (r0 :: new')).length, c', none⟩) ?_, hK⟩
                 rw [← M.len]; simp
               | false =>
                 simp only [cond_false] at hs4
                 obtain ⟨hc4, hok, hK⟩ := zaa hs4
                 simp only [zyy, zzt] at hc4
                 have hl0 := zy1 hc4.1
                 subst hl0
                 have ha := g3 rfl
                 have hcap := g7 rfl rfl
                 subst ha hcap
                 have hpl : n = (rows.take n).length := by rw [zz1, Nat.min_eq_left (by omega)]
                 refine app_w ty (own.takeN (n := n)) (M.front h2) src hpl rfl hok fun a' c' ch' h' own' S' => ?_
                 have hlt := (zyz.1 h2).1
                 have S2 : St D ([] :: ((chs ++ (ch' :: C)).eraseIdx b)) h' := by
                  rw [z02 hlt]
                  rw [z02 hlt] at S'
                  exact S'.mid.nil
                 have M1 := M.put g1 h2 S2 (.refl D) .x
                 have M2 := M1.push (L := ⟨0, a', (rows.take n ++ (r0 :: new')).length, c', none⟩) (ab := .w e (zao P e) (rows.take n ++ (r0 :: new'))) (.w own' rfl)
                 refine ⟨D, _, _, _, _, (Nx.set (.refl D) hc4.2).trans (.push M1 (.refl D)), M2, .w (L := ⟨0, a', (rows.take n ++ (r0 :: new')).length, c', none⟩) ?_, hK⟩
                 rw [← M.len]; simp
         · exact hs3.elim
       · exact hs3.elim
     · exact appCS_S ⟨hT, i, z, hi, hsz, hby, hby2, hz, hzs⟩ hs2 M hx hy
 · exact hs.elim
theorem zp9 {l : Int} (hu : P.underlying S = some (.slice e)) (hz : zrow P e = some zr) (hty : zx0 P S e (zao P e) = true) (hzl : zr.length = zao P e) (h0 : 0 ≤ l) (h1 : l ≤ 1000000) (M : SAt D ρ m chs C h) 
 (hK : ∀ b ρ' chs' h', Nx ro hr D ρ m chs D ρ' (m ++ [.w e (zao P e) (zzi l.toNat zr)]) chs' → SAt D ρ' (m ++ [.w e (zao P e) (zzi l.toNat zr)]) chs' C h' → Rp D ρ' (.slice (some ⟨b, 0, none⟩) l.toNat l.toNat) (.w m.length) → K (.slice (some ⟨b, 0, none⟩) l.toNat l.toNat) h') :
 SWp P (Instr.makeSlice S (.int .i64 l) (.int .i64 l)) h K := by
 obtain ⟨-, i, z, hi, hsz, hby, hby2, hiz, hzs⟩ := ElTy.of hty
 obtain ⟨i', z', hi', hiz', hzr⟩ := zq3 (D := D) hz
 rw [hi] at hi'; cases hi'
 rw [hiz] at hiz'; cases hiz'
 have hw : IntKind.i64.wrap l = l := w64 (by omega) (by omega)
 unfold Instr.makeSlice
 refine zab (zaq hu ?_)
 refine zab ?_
 change SWp P (asInt _ >>= _) h K
 refine zab ?_
 change SWp P (typeInfo e >>= _) h K
 refine zab (zas hi ?_)
 simp only [hw]
 have hbl : ¬ ((i.bytes : Int) * l > 2 ^ 48) := by
  have h2 : (i.bytes : Int) * l ≤ 1000 * 1000000 := z1u (by omega) h1 h0 (by omega)
  omega
 rw [if_neg (by simp; omega)]
 refine zab (zdz ?_)
 refine zab (zck hi ?_)
 have go : ∀ arr : Array Value, arr.toList = (zzi l.toNat z.cells.toList).flatten → SWp P (do let a ← newRow e arr; pure (.slice (some a) l.toNat l.toNat)) h K := by
  intro arr harr
  show zr2 h (.cells arr e) (fun b h1 => K (.slice (some ⟨b, 0, none⟩) l.toNat l.toNat) h1)
  have hr1 : RdL D arr.toList (zzi l.toNat zr).flatten := by rw [harr]; exact zv2 hzr _
  refine M.st.new fun b h1 S1 => ?_
  have own : Own D e (zao P e) (some ⟨b, 0, none⟩) l.toNat (zzi l.toNat zr) [(b, .cells arr e (0, 0))] := by
   have := Own.ofL (E := e) (b := b) (sz := zao P e) (n := l.toNat) hr1 (fun r hr => by rw [z14 hr]; exact hzl) (by simp) (by omega)
   rwa [z0n] at this
  refine hK b (ρ ++ [⟨0, some ⟨b, 0, none⟩, l.toNat, l.toNat, none⟩]) (chs ++ [_]) h1 (.push M (.refl D)) (M.new S1 (.refl D) (.w own (by simp))) (.w (L := ⟨0, some ⟨b, 0, none⟩, l.toNat, l.toNat, none⟩) ?_)
  rw [← M.len]; simp
 by_cases hn : l.toNat * i.size = 0
 · rw [if_pos hn]
   refine zab ?_
   refine go _ ?_
   rcases Nat.mul_eq_zero.1 hn with h2 | h2
   · rw [h2]; simp
   · have : z.cells.toList = [] := z0p (by rw [z1z, hzs, ← hsz, h2])
     rw [this, hn]; simp
 · rw [if_neg hn]
   refine zab (zf8 hi hiz ?_)
   refine go _ ?_
   rw [← zhh z.cells l.toNat i.size (by rw [hzs, hsz])]
   simp
theorem zvg {ps : List (Nat × V)} {pv : List (Nat × Value)} (hl : zh7 P e n ps = some l) (h1 : pv.map (·.1) = ps.map (·.1)) (h2 : RpL D ρ (pv.map (·.2)) (ps.map (·.2))) :
 ∃ i z l', P.info? e = some i ∧ i.zero = some z ∧ zi8 (fun j => some (j * zao P e, zao P e)) ((zzh (n * i.size)).map fun j => z.cells[j % z.cells.size]!) pv = some l' ∧ RpC D ρ l' l := by
 unfold zh7 zcells at hl
 cases hi : P.info? e with
 | none => rw [hi] at hl; simp at hl
 | some i =>
   rw [hi] at hl
   cases hz : i.zero with
   | none => simp [hz] at hl
   | some z =>
     simp only [Option.bind_some, hz] at hl
     cases hzb : zyw z.cells.size (zao P e) with
     | false => rw [hzb] at hl; simp at hl
     | true =>
     rw [hzb] at hl
     simp only [cond_true] at hl
     have hzs : z.cells.size = i.size := by rw [zy1 hzb]; simp [zao, hi]
     have hrep : ∀ n : Nat, RpC D ρ (zzi n z.cells.toList).flatten (zzi n (fixN (zgo P 9 e) (z.cells.toList.map zp5))).flatten := fun n => by
      induction n with
      | zero => exact .nil
      | succ n ih => rw [z1k, z1k, zzd, zzd]; exact (zi7 (zfb _)).app ih
     obtain ⟨l', g1, g2⟩ := zl9 (pv := pv) hl (hrep n) (by rw [h1, zz9]; rfl) (by
      rw [zz9]
      have : ∀ (xs : List V) {vs : List Value}, RpL D ρ vs xs → RpL D ρ vs (xs.map (zdf P e)) := fun xs => by
       induction xs with
       | nil => intro vs h; cases h; exact .nil
       | cons x xs ih => intro vs h; cases h with | cons a b => exact .cons (zea a) (ih b)
      have := this _ h2
      rw [zz9] at this
      exact this)
     exact ⟨i, z, l', rfl, hz, by rw [zhh z.cells n i.size hzs]; exact g1, g2⟩
theorem clear_S {KS : Mem → Prop} (hs : zx8 P (hr ++ ro) S x m KS) (M : SAt D ρ m chs C h) (hx : Rp D ρ v x) 
 (hK : ∀ m' chs' h', Nx ro hr D ρ m chs D ρ m' chs' → SAt D ρ m' chs' C h' → KS m' → K (.tuple #[]) h') : SWp P (Builtin.clear_ #[S] ty #[v]) h K := by
 unfold zx8 at hs
 split at hs
 · rename_i e hu
   split at hs
   · rename_i b sz l n c
     obtain ⟨hc, hs⟩ := zaa hs
     simp only [zyy, zzt] at hc
     have hse := zy1 hc.1.2
     have hn0 : 0 < n := by
      cases n with
      | zero => simp at hc
      | succ n => omega
     split at hs
     · rename_i E s rows zr hm hz
       obtain ⟨hc2, hk⟩ := zaa hs
       simp only [zyy] at hc2
       have e1 := zy1 hc2.1
       have e2 := zy1 hc2.2
       subst e1
       obtain ⟨L, a, cap, g1, g2, g3, g4, g5, g6, g7, rfl⟩ := hx.v_inv
       obtain ⟨L', ch, h1, h2, h3⟩ := M.get (b := b) (by rw [hm]; simp)
       rw [g1] at h1; cases h1
       rw [hm] at h3
       obtain ⟨i, z, hi, hiz, hzr⟩ := zq3 (D := D) hz
       obtain ⟨p, q, hA, ha⟩ := g4 hn0
       cases h3 with
       | w own hn =>
         have hzl : z.cells.toList.length = s := by rw [hzr.len, e2]
         have hle : l + n ≤ rows.length := by omega
         have hlen : L.n = (rows.take l ++ (zzi n zr ++ rows.drop (l + n))).length := by rw [hn]; simp; omega
         obtain ⟨b', hb', hst⟩ := own.fill (M.front h2) hzr hzl hn0 hle (K' := fun h' => K (.tuple #[]) h') fun ch' h' own' S' => by
          have M2 := M.put (ab := .w E s (rows.take l ++ (zzi n zr ++ rows.drop (l + n)))) g1 h2 S' (.refl D) (.w own' hlen)
          exact hK _ _ _ (Nx.set (.refl D) hc.1.1) M2 hk
         rw [hA] at hb'; cases hb'
         subst ha
         show SWp P (underlying S >>= _) h K
         refine zab (zaq hu ?_)
         obtain ⟨n, rfl⟩ : ∃ k, n = k + 1 := ⟨n - 1, by omega⟩
         refine zab (zf8 hi hiz ?_)
         have hzc : (Builtin.zeroCells z.cells (n + 1)).toList = (zzi (n + 1) z.cells.toList).flatten := by
          rw [← zhh z.cells (n + 1) z.cells.size rfl]
          simp [Builtin.zeroCells]
         rw [hzc]
         rw [zze]
         exact zab (za7 hst)
     · exact hs.elim
   · exact hs.elim
 · exact hs.elim
theorem callv_S (hcall : zga P X ro hr call) (hx : X D ρ) {f : V} {fv : Value} {a c : List V} {as' : Array Value} {args : List V} {ty : TypeId} (hf : Rp D ρ fv (.f g a c)) (hs : call g (a ++ args ++ c) m KS) (M : SAt D ρ m chs C h) (ha : RpL D ρ as'.toList args) :
 ∃ first cap, fv = .func (.func g) first cap ∧ Run P g (first ++ as' ++ cap).toList h (zcx ro hr D ρ m chs C KS) := by
 obtain ⟨xs, ys, rfl, h1, h2⟩ := hf.f_inv
 refine ⟨_, _, rfl, ?_⟩
 have : (xs.toArray ++ as' ++ ys.toArray).toList = xs ++ as'.toList ++ ys := by simp
 rw [this]
 exact hcall hx hs M ((h1.app ha).app h2)
theorem eff_S (hcall : zga P X ro hr call) (hx : X D ρ) (hs : effS P vw (hr ++ ro) call t m o KS) (M : SAt D ρ m chs C h) (F : RpL D ρ T t) : RWp P (execOp (ev T) o) h (zlt P (zcx ro hr D ρ m chs C KS)) := by
 obtain ⟨dst, op, ty, pos, after, guard⟩ := o
 cases op <;> simp only [effS] at hs
 case store S a x =>
  refine SWp.r ?_
  obtain ⟨ad, hv, hk⟩ := sStore_S (K := fun h' => zcx ro hr D ρ m chs C KS undef h') hs M (zcf F a) (zcf F x) fun D' m' chs' h' n M' hk => ⟨D', ρ, m', chs', .z, n, M', .z, hk⟩
  exact zct (H := ⟨[], [], []⟩) (by simp only [zt8, hv]; exact hk)
 case box S x =>
  refine SWp.r ?_
  split at hs
  · rename_i xs hx
    exact zct (H := ⟨[], [], []⟩) (by
     simp only [zt8]
     exact box_S hx M (zcf F x) fun b ρ' chs' h' n M' hv => ⟨D, ρ', _, chs', _, n, M', hv, hs⟩)
  · exact hs.elim
 case alloc S =>
  refine SWp.r ?_
  split at hs
  · rename_i z hz
    exact zct (H := ⟨[], [], []⟩) (by
     simp only [zt8, hz]
     exact alloc_S M fun b ρ' chs' h' n M' hv => ⟨D, ρ', _, chs', _, n, M', hv, hs⟩)
  · exact hs.elim
 case buildSlice S n ps =>
  refine SWp.r ?_
  have hpm : (ps.toList.map fun p => (p.1, ev T p.2)).map (·.1) = (ps.toList.map fun p => (p.1, evS t p.2)).map (·.1) := by simp [zz9, Function.comp_def]
  have hps : RpL D ρ ((ps.toList.map fun p => (p.1, ev T p.2)).map (·.2)) ((ps.toList.map fun p => (p.1, evS t p.2)).map (·.2)) := by
   have h := zqp F (ps.toList.map (·.2)); rw [zz9, zz9] at h; rw [zz9, zz9]; exact h
  split at hs
  · rename_i e hu
    have cellsOk : ∀ {l : List V}, zh7 P e n (ps.toList.map fun p => (p.1, evS t p.2)) = some l → (zzc (n * zao P e) 16777216 && !zyw (n * zao P e) 0) = true → KS (.sl m.length 0 n) (m ++ [.c l]) →
     SWp P (execOp (ev T) ⟨dst, .buildSlice S n ps, ty, pos, after, guard⟩) h (zlt P (zcx ro hr D ρ m chs C KS)) := fun {l} hl hcc hk => by
     obtain ⟨i, z, l', hi, hiz, hf, hr⟩ := zvg (ρ := ρ) hl hpm hps
     have hsz : zao P e = i.size := by simp [zao, hi]
     rw [hsz] at hcc hf
     refine zct (H := ⟨[], [], []⟩) ?_
     simp only [zt8, hu, hi, hiz, hcc, cond_true, hf]
     refine M.st.new fun b h1 S1 => ?_
     refine ⟨D, ρ ++ [⟨b, none, 0, 0, none⟩], _, chs ++ [_], _, .push M (.refl D), M.new (L := ⟨b, none, 0, 0, none⟩) S1 (.refl D) (.c (RpC.mono (.refl D) _ hr)), .sl (L := ⟨b, none, 0, 0, none⟩) ?_ (fun _ => rfl) (zy9 _), hk⟩
     rw [← M.len]; simp
    split at hs
    · rename_i zr hz
      cases hc : (zzc (n * zao P e) 16777216 && !zyw (n * zao P e) 0 && zyw zr.length (zao P e)) with
      | true =>
        rw [hc] at hs
        simp only [cond_true] at hs
        simp only [zyy] at hc
        split at hs
        · rename_i rows m1 hr1
          have hr1 : zno P (hr ++ ro) e (zzi n zr) m (ps.toList.map fun p => (p.1, evS t p.2)) = some (rows, m1) := by
           cases hkt : (vw && keepT P e) with
           | true => rw [hkt] at hr1; cases hr1
           | false => rw [hkt] at hr1; exact hr1
          obtain ⟨i, z, hi, hiz, hzr⟩ := zq3 (D := D) hz
          have hsz : zao P e = i.size := by simp [zao, hi]
          have hzl : z.cells.size = i.size := by
           have := hzr.len
           rw [zy1 hc.2, hsz] at this
           simpa using this
          have hzr2 : zr.length = i.size := by rw [zy1 hc.2, hsz]
          obtain ⟨D1, c1, l', n1, M1, g0, g1, g2, g3⟩ := zrk (sz := i.size) hsz hr1 M (zv2 hzr n) (fun r hr => by rw [z14 hr]; exact hzr2) hpm hps
          rw [← zhh z.cells n i.size hzl] at g3
          refine zct (H := ⟨[], [], []⟩) ?_
          have hcc : (zzc (n * i.size) 16777216 && !zyw (n * i.size) 0) = true := by rw [← hsz]; simpa using hc.1
          simp only [zt8, hu, hi, hiz, hcc, cond_true, g3]
          have hn : rows.length = n := by simpa using g2
          refine M1.st.new fun b h1 S1 => ?_
          have own : Own D1 e i.size (some ⟨b, 0, none⟩) n rows [(b, .cells l'.toArray e (0, 0))] := Own.ofL g0 g1 hn (by
           simp only [zyy, zzt] at hcc
           have hz1 := zz0 hcc.1
           have hz2 : n * i.size ≠ 0 := fun e => by rw [e] at hcc; exact absurd hcc.2 (by decide)
           have : n ≤ n * i.size := Nat.le_mul_of_pos_right _ (Nat.pos_of_ne_zero fun e => hz2 (by rw [e, Nat.mul_zero]))
           omega)
          refine ⟨D1, ρ ++ [⟨0, some ⟨b, 0, none⟩, n, n, none⟩], _, c1 ++ [_], _, n1.trans (.push M1 (.refl _)), M1.new S1 (.refl _) (.w (L := ⟨0, some ⟨b, 0, none⟩, n, n, none⟩) (by rw [hsz]; exact own) hn.symm), .w (L := ⟨0, some ⟨b, 0, none⟩, n, n, none⟩) ?_, hs⟩
          rw [← M1.len]; simp
        · split at hs
          · rename_i l hl
            exact cellsOk hl (by simpa using hc.1) hs
          · exact hs.elim
      | false =>
        rw [hc] at hs
        simp only [cond_false] at hs
        obtain ⟨hc2, hk⟩ := zaa hs
        simp only [zyy] at hc2
        have hn0 := zy1 hc2.1
        have hp0 := zy1 hc2.2
        have hp : ps = #[] := Array.eq_empty_of_size_eq_zero hp0
        subst hn0 hp
        obtain ⟨i, z, hi, hiz, hzr⟩ := zq3 (D := D) hz
        simp only [execOp, Instr.buildSlice]
        refine SWp.bind (zab (zaq hu ?_))
        refine zab (zck hi ?_)
        rw [if_neg (by simp)]
        rw [if_pos (by simp)]
        refine zab ?_
        have hf : ∀ (f : Nat → Option (Nat × Nat)) (c : Array Value), Instr.fill f c (Array.map (fun (x : Nat × Operand) => (x.fst, ev T x.snd)) #[]).toList = some c := fun f c => by simp [Instr.fill]
        show SWp P (match Instr.fill (fun i_1 => some (i_1 * i.size, i.size)) (Array.map (fun x => (#[] : Array Value)[x % (#[] : Array Value).size]!) (Array.range (0 * i.size))) (Array.map (fun (x : Nat × Operand) => (x.fst, ev T x.snd)) #[]).toList with
         | some cells => (do let a ← newRow e cells; pure (Value.slice (some a) 0 0)) | _ => stuck "buildSlice: a part of the wrong size") h _
        rw [hf]
        refine zab ?_
        show zr2 h (.cells _ e) (fun b h1 => zlt P (zcx ro hr D ρ m chs C KS) (.value (.slice (some ⟨b, 0, none⟩) 0 0)) h1)
        refine M.st.new fun b h1 S1 => ?_
        exact ⟨D, ρ, m, chs, _, .refl, M.mono (.refl D) S1.drop, .c (.nil _ _ _), hk⟩
    · split at hs
      · rename_i l hl
        obtain ⟨hcc, hk⟩ := zaa hs
        exact cellsOk hl hcc hk
      · exact hs.elim
  · exact hs.elim
 case makeSlice S l c =>
  refine SWp.r ?_
  split at hs
  · rename_i e l' c' hu hl hc
    split at hs
    · rename_i zr hz
      obtain ⟨hcc, h0, h1, h2, hK⟩ := zaa hs
      simp only [zyy] at hcc
      subst h2
      have e1 := zcf F l
      have e2 := zcf F c
      rw [hl] at e1
      rw [hc] at e2
      simp only [execOp, zha e1, zha e2]
      exact SWp.bind (zp9 hu hz hcc.1 (zy1 hcc.2) h0 h1 M fun b ρ' chs' h' n M' hv => ⟨D, ρ', _, chs', _, n, M', hv, hK⟩)
    · exact hs.elim
  · exact hs.elim
 case call c =>
  obtain ⟨callee, args, argTypes⟩ := c
  have hargs : args.map (ev T) = (args.toList.map (ev T)).toArray := by apply Array.ext'; rw [Array.toList_map]
  simp only at hs
  split at hs
  · rename_i f
    split at hs
    · rename_i g a cc he
      have hf := zcf F f
      rw [he] at hf
      refine SWp.r ?_
      obtain ⟨first, cap, hv, hrun⟩ := callv_S (f := .z) (ty := 0) (as' := args.map (ev T)) hcall hx hf hs M (by rw [Array.toList_map]; exact zqp F _)
      simp only [execOp, resolve, hv, Deferred.ofValue]
      exact zmh hrun.1 hrun
    · exact hs.elim
  · split at hs
    · rename_i x y S S' hax hat
      refine SWp.r ?_
      obtain ⟨hc, hs2⟩ := zaa hs
      have := zy1 hc
      subst this
      have hat : argTypes = #[S, S] := by rw [← z0n (xs := argTypes), hat]
      have hm : args.map (ev T) = #[ev T x, ev T y] := by rw [hargs, hax]; rfl
      subst hat
      have := appS_S (R := ty) hs2 M (zcf F x) (zcf F y)
      simp only [execOp, resolve, hm]
      exact SWp.bind (SWp.bind this)
    · exact hs.elim
  · split at hs
    · rename_i x y S S' hax hat
      have hat : argTypes = #[S, S'] := by rw [← z0n (xs := argTypes), hat]
      have hm : args.map (ev T) = #[ev T x, ev T y] := by rw [hargs, hax]; rfl
      subst hat
      intro w hw
      obtain ⟨v, w', hrun, ⟨rfl, m', chs', n, M', hk⟩, hS⟩ := mapDel_S (ty := ty) hs M (zcf F x) (zcf F y) w hw
      refine ⟨.value (.tuple #[]), w', ?_, ⟨D, ρ, m', chs', .t [], n, M', .t (vs := []) .nil, hk⟩, hS⟩
      simp [execOp, resolve, invoke, Go.builtin, hm, hrun, Result.andThen]
    · exact hs.elim
  · split at hs
    · rename_i x S hax hat
      refine SWp.r ?_
      have hat : argTypes = #[S] := by rw [← z0n (xs := argTypes), hat]
      have hm : args.map (ev T) = #[ev T x] := by rw [hargs, hax]; rfl
      subst hat
      have := clear_S (ty := ty) hs M (zcf F x) (K := fun v h' => zlt P (zcx ro hr D ρ m chs C KS) (.value v) h') fun m' chs' h' n M' hk => ⟨D, ρ, m', chs', .t [], n, M', .t (vs := []) .nil, hk⟩
      simp only [execOp, resolve, hm]
      exact SWp.bind (SWp.bind this)
    · exact hs.elim
  · exact hs.elim
 case makeMap S r =>
  cases r with
  | some r => exact hs.elim
  | none =>
    simp only at hs
    split at hs
    · rename_i kt zs E zv ht
      refine SWp.r (zct (H := ⟨[], [], []⟩) ?_)
      simp only [zt8]
      refine M.st.new fun b h1 S1 => ?_
      refine ⟨D, ρ ++ [⟨b, none, 0, 0, none⟩], _, chs ++ [_], _, .push M (.refl D), M.new S1 (.refl D) (.p (L := ⟨b, none, 0, 0, none⟩) (.nil kt) .nil (by simp)), .m (L := ⟨b, none, 0, 0, none⟩) ?_, hs⟩
      rw [← M.len]; simp
    · exact hs.elim
 case mapUpdate S x k v =>
  intro w hw
  obtain ⟨u, w', hrun, ⟨D', m', chs', n, M', hk⟩, hS⟩ := mapUpd_S hs M (zcf F x) (zcf F k) (zcf F v) w hw
  refine ⟨.skip, w', ?_, ⟨D', ρ, m', chs', .z, n, M', .z, hk⟩, hS⟩
  simp [execOp, hrun, Result.andThen]
 all_goals exact hs.elim
end
section
variable {P : Program} {D D' : Fz} {ρ : List Loc} {m : Mem} {chs C : List zac} {h h' : zaf} {T : List Value} {t : List V} {ro hr : List Nat}
theorem Own.take {E c : Nat} (x : Own D E sz a c rows ch) (r : Nat) : Own D E sz a c (rows.take r) ch := by
 cases x with
 | nil => simp only [z2q]; exact .nil _
 | row b c arr rows v h1 h2 h3 h4 h5 =>
   have sub : ∀ {i : Nat} {q : List U}, (rows.take r)[i]? = some q → rows[i]? = some q := fun hi => by
    rw [z0l] at hi; split at hi; exact hi; cases hi
   exact .row b c arr _ v h1 (by simp; omega) (fun q hq => h3 q (z1r hq)) (fun i j q u hi hj => h4 i j q u (sub hi) hj) fun i j q u hi hj => h5 i j q u (sub hi) hj
theorem frz_nums {S : Nat} {xs : List Int} (hd : D b = some (.cells (xs.map (Value.int .i64)).toArray S (0, 0))) : Rd D (.slice (some ⟨b, 0, none⟩) xs.length xs.length) (.l 1 (xs.map zg4)) := by
 have := Rd.row (D := D) b 0 xs.length (xs.map (Value.int .i64)).toArray S (0, 0) (xs.map zg4) 1 (fun i _ => .int .i64 (xs.getD i 0)) hd (by simp) (fun r hr => by obtain ⟨x, -, rfl⟩ := zzu.1 hr; rfl)
  (fun i j r u hi hj => by
   rw [zy5] at hi
   obtain ⟨x, hx, rfl⟩ := z0e.1 hi
   have : j = 0 := by cases j with | zero => rfl | succ j => simp [zg4] at hj
   subst this
   simp [hx])
  (fun i j r u hi hj => by
   rw [zy5] at hi
   obtain ⟨x, hx, rfl⟩ := z0e.1 hi
   have : j = 0 := by cases j with | zero => rfl | succ j => simp [zg4] at hj
   subst this
   simp [zg4] at hj
   subst hj
   simp only [z07, hx, zz8]
   exact .int _ _)
 simpa using this
theorem cut_S {p : Prop} (hc : cutS P (hr ++ ro) t m o KS = some p) (hs : p) (M : SAt D ρ m chs C h) (F : RpL D ρ T t) :
 ∃ v D' ρ' m' chs' x, Nx ro hr D ρ m chs D' ρ' m' chs' ∧ SAt D' ρ' m' chs' C h ∧ Rp D' ρ' v x ∧ KS x m' ∧ ∀ w, (execOp (ev T) o).run P w = .ok (.value v) w := by
 obtain ⟨dst, op, ty, pos, after, guard⟩ := o
 cases op <;> simp only [cutS] at hc <;> try (cases hc; done)
 case slice S x lo hi mx =>
  cases mx with
  | some mx => simp at hc
  | none =>
    simp only at hc
    have hx := zcf F x
    split at hc
    · rename_i b he
      rw [he] at hx
      split at hc
      · rename_i e E sz rows hu hm
        split at hc
        · rename_i l r hl hr'
          simp only [Option.some.injEq] at hc
          subst hc
          cases hb : (inL (hr ++ ro) b || !(zyw sz (zao P e) && !zyw sz 0)) with
          | true => rw [hb] at hs; exact hs.elim
          | false =>
            rw [hb] at hs
            simp only [cond_false] at hs
            simp only [z2e, Bool.not_eq_false', zyy, zzt] at hb
            have hse := zy1 hb.2.1
            subst hse
            have hne : zao P e ≠ 0 := fun h0 => by rw [h0] at hb; simp at hb
            have hnz : ∀ {A : Prop}, A → nz (zao P e) A := fun hA => by unfold nz; rw [hb.2.2]; exact hA
            obtain ⟨L, hL, hv⟩ := hx.w_inv
            obtain ⟨L', ch, h1, h2, h3⟩ := M.get (b := b) (by rw [hm]; simp)
            rw [hL] at h1; cases h1
            rw [hm] at h3
            cases h3 with
            | w own hn =>
              have hcap := own.len
              have hr2 : bnd T hi (L.n : Int) = some r := by rw [hn]; exact zcz F hr'
              cases lo with
              | none =>
                simp only at hs
                obtain ⟨g0, g1, hK⟩ := hs
                have M1 := M.put (C' := ch :: C) hL h2 (ch' := []) (by
                 have hlt := (zyz.1 h2).1
                 have S' := M.front h2
                 rw [z02 hlt] at S' ⊢
                 exact S'.mid.nil) (.refl D) .x
                have M2 := M1.push (L := ⟨0, L.a, r.toNat, L.c, none⟩) (ab := .w E (zao P e) (rows.take r.toNat)) (.w (own.take _) (by simp; omega))
                refine ⟨.slice L.a r.toNat L.c, D, _, _, _, _, (Nx.set (.refl D) hb.1).trans (.push M1 (.refl D)), M2, .w (L := ⟨0, L.a, r.toNat, L.c, none⟩) (by rw [← M.len]; simp), hK, fun w => yp ?_ w⟩
                simp only [zfa, hu, hv, hr2]
                exact ⟨g0, by omega, hnz rfl⟩
              | some lo =>
                simp only at hs
                obtain ⟨g0, g1, g2, hK⟩ := hs
                obtain ⟨D', l', S', hrd⟩ := own.freeze (M.front h2)
                have hpart := hrd.part (l := l.toNat) (r := r.toNat) (by omega) (by omega)
                refine ⟨_, D', ρ, _, _, _, .set l' hb.1, M.put hL h2 S'.nil l' .x, .u hpart, hK, fun w => yp ?_ w⟩
                simp only [zfa, hu, hv, zcz F hl, hr2]
                exact ⟨g0, g1, by omega, hnz (by first | rfl | trivial)⟩
        · cases hc; exact hs.elim
      · cases hc; exact hs.elim
    · rename_i b he
      rw [he] at hx
      split at hc
      · rename_i k w xs hm
        obtain ⟨L, hL, hv⟩ := hx.r_inv
        obtain ⟨L', ch, h1, h2, h3⟩ := M.get (b := b) (by rw [hm]; simp)
        rw [hL] at h1; cases h1
        rw [hm] at h3
        cases h3 with
        | c hcc =>
          rename_i arr S'
          -- the block is frozen
          have fin : k = .i64 → inL (hr ++ ro) b = false → KS (.u (.l 1 (xs.map zg4))) (ms m b .x) → xs.length = w → (∀ wd, (execOp (ev T) ⟨dst, .slice S x none none none, ty, pos, after, guard⟩).run P wd = .ok (.value (.slice (some ⟨L.b, 0, none⟩) w w)) wd) →
           ∃ v D' ρ' m' chs' x', Nx ro hr D ρ m chs D' ρ' m' chs' ∧ SAt D' ρ' m' chs' C h ∧ Rp D' ρ' v x' ∧ KS x' m' ∧ ∀ w, (execOp (ev T) ⟨dst, .slice S x none none none, ty, pos, after, guard⟩).run P w = .ok (.value v) w := by
           intro hk hb hK hw hrun
           subst hk
           have harr : arr = xs.map (.int .i64) := by
            cases hcc with
            | cons a n b => exact absurd rfl (n _ _ _)
            | n hl b => cases b; simp
           subst harr
           obtain ⟨D', l', g, S''⟩ := (M.front h2).freeze
           refine ⟨_, D', ρ, _, _, _, .set l' hb, M.put hL h2 S''.nil l' .x, .u (frz_nums (g _ (zzx _))), hK, fun wd => ?_⟩
           rw [hrun wd, hw]
          have hlen : xs.length = w := by
           cases hcc with
           | cons a n b => exact absurd rfl (n _ _ _)
           | n hl b => exact hl
          have k3 : zyw (zax k) 3 = true → k = .i64 := fun hk => by cases k <;> first | rfl | simp [zax] at hk
          split at hc
          · rename_i n e hu
            simp only [Option.some.injEq] at hc
            subst hc
            obtain ⟨hq, hK⟩ := zaa hs
            simp only [zyy, zzt] at hq
            have e1 := zy1 hq.1.1.2
            have e2 := zy1 hq.1.2
            refine fin (k3 hq.2) hq.1.1.1 hK hlen fun wd => yp ?_ wd
            have h0 : (0 : Int) ≤ (n : Int) := z1h n
            simp only [zfa, hu, hv, bnd]
            refine ⟨h0, zzk _, ?_⟩
            rw [e2, ← e1]
            simp [nz, slA, zhb]
          · rename_i A hu
            split at hc
            · rename_i n e hA
              simp only [Option.some.injEq] at hc
              subst hc
              obtain ⟨hq, hK⟩ := zaa hs
              simp only [zyy, zzt] at hq
              have e1 := zy1 hq.1.1.2
              have e2 := zy1 hq.1.2
              refine fin (k3 hq.2) hq.1.1.1 hK hlen fun wd => yp ?_ wd
              have h0 : (0 : Int) ≤ (n : Int) := z1h n
              simp only [zfa, hu, hv, hA, bnd]
              refine ⟨h0, zzk _, ?_⟩
              rw [e2, ← e1]
              simp [nz, slA, zhb]
            · cases hc; exact hs.elim
          · cases hc; exact hs.elim
      · cases hc; exact hs.elim
    · cases hc
theorem zkv {b : ByteArray} {i : Nat} {r : List U} (hi : (zjg b)[i]? = some r) : ∃ c, b.data.toList[i]? = some c ∧ [U.i .u8 (c.toNat : Int)] = r := by
 unfold zjg at hi
 rw [zy5] at hi
 exact z0e.1 hi
theorem str_S (hs : strS P t m o = some x) (M : SAt D ρ m chs C h) (F : RpL D ρ T t) (w : World) (hw : w.heap = h) :
 ∃ v w' D', (execOp (ev T) o).run P w = .ok (.value v) w' ∧ Le D D' ∧ St D' (chs ++ C) w'.heap ∧ Rp D' ρ v x ∧ Same w w' := by
 obtain ⟨dst, op, ty, pos, after, guard⟩ := o
 unfold strS at hs
 cases op <;> simp only at hs <;> try (cases hs; done)
 case convert s d y =>
  split at hs
  · rename_i sd e b h1 h2 h3
    split at hs
    · rename_i h4
      cases hs
      have hx := zcf F y
      rw [h3] at hx
      have hx := zu4 hx
      have hrun : (execOp (ev T) ⟨dst, .convert s d y, ty, pos, after, guard⟩).run P w = .ok (.value (.slice (some ⟨w.heap.size, 0, none⟩) b.size (grownCap w b.size 0 e))) (Lib.bytesWorld w e b) := by
       simp only [execOp, hx]
       rw [Sem.run_bind, Lib.run_convert_string_bytes w s d e b h1 h2 h4]
       rfl
      have k : KB [] h (Lib.bytesWorld w e b).heap := by
       subst hw
       exact ⟨by rw [Lib.bytesWorld_size]; omega, fun j hj _ => Lib.bytesWorld_at_old w e b j hj⟩
      have hnew := Lib.bytesWorld_at_new w e b
      have S1 : St D ([(w.heap.size, .cells (Lib.bytesCells w e b) e ((Lib.bytesCells w e b).size, (Lib.bytesCells w e b).size + 1))] :: (chs ++ C)) (Lib.bytesWorld w e b).heap :=
       M.st.nil.upd k (by simpa using hnew) (by simp) (by simp [hw])
      obtain ⟨D', l, g, S2⟩ := S1.freeze
      refine ⟨_, _, D', hrun, l, S2, .u ?_, ⟨rfl, rfl, rfl, z0i _⟩⟩
      have hlen : (zjg b).length = b.size := by simp [zjg]
      rw [← hlen]
      refine .row w.heap.size 0 _ _ e _ (zjg b) 1 (fun i _ => .int .u8 (b.data.toList.getD i 0).toNat) (g _ (zzx _)) ?_ (by simp [zjg]) (fun i j r u hi hj => ?_) fun i j r u hi hj => ?_
      · rw [hlen]; exact grownCap_ge _ _ _ _
      · obtain ⟨c, hc, rfl⟩ := zkv hi
        have hib : i < b.size := by
         have := (zyz.1 hc).1
         simpa using this
        have hj0 : j = 0 := by have := (zyz.1 hj).1; simp at this; omega
        subst hj0
        rw [zze, Nat.mul_one, z0y, ← zaz hnew i]
        exact Lib.bytesWorld_cell w e b i hib
      · obtain ⟨c, hc, rfl⟩ := zkv hi
        have hj0 : j = 0 := by have := (zyz.1 hj).1; simp at this; omega
        subst hj0
        cases hj
        rw [z07, hc]
        exact .int _ _
    · cases hs
  · rename_i e hA hB
    have h1 : P.underlying s = some (.slice e) := by assumption
    have h2 : P.underlying d = some .string := by assumption
    split at hs
    · rename_i rows h4 h5
      split at hs
      · rename_i ns hns
        cases hs
        have hrows := zqv hns
        obtain ⟨a, c, hv, hsrc⟩ := srcS_S h5 M (zcf F y)
        have hrun := zs2 (P := P) (w := w) (c := c) hrows (by rw [hw]; exact hsrc)
        refine ⟨.string (zva ns), w, D, ?_, .refl D, by rw [hw]; exact M.st, .u (.str _), .refl w⟩
        simp only [execOp, hv]
        rw [Sem.run_bind, run_convert_bytes_string w s d e a _ _ h1 h4 h2, hrun]
        rfl
      · cases hs
    · cases hs
  · cases hs
theorem op_S (hcall : zga P X ro hr call) (hx : X D ρ) {a : Act} (hs : opS P vw (hr ++ ro) call t m o KS) (M : SAt D ρ m chs C w.heap) (F : RpL D ρ a.tmps.toList t)
 {next : Act → World → Prop} (hn : ∀ v w', zcx ro hr D ρ m chs C KS v w'.heap → Same w w' → next (a.put o.dst v) w') : o.wp P a w next Q := by
 unfold opS at hs
 split at hs
 · rename_i p hc
   cases vw with
   | true =>
     have hc : strP P t m o KS = some p := hc
     unfold strP at hc
     cases ho : strO P o with
     | false => rw [ho] at hc; cases hc
     | true =>
       rw [ho] at hc
       simp only [cond_true] at hc
       split at hc
       · rename_i x hx'
         cases hc
         obtain ⟨v, w', D', hrun, l, S', r, same⟩ := str_S hx' M F w rfl
         unfold Oper.wp
         rw [zbb, hrun]
         exact hn v w' ⟨D', ρ, m, chs, x, ⟨l, ⟨[], by simp⟩, fun _ _ _ => rfl, fun _ _ _ => rfl, zy9 _⟩, M.mono l S', r.mono (.refl _) [] |> fun r => by rwa [zzw] at r, hs⟩ same
       · cases hc; exact hs.elim
   | false =>
     have hc : cutS P (hr ++ ro) t m o KS = some p := hc
     obtain ⟨v, D', ρ', m', chs', x, n, M', hv, hK, hrun⟩ := cut_S hc hs M F
     unfold Oper.wp
     rw [zbb, hrun w]
     exact hn v w ⟨D', ρ', m', chs', x, n, M', hv, hK⟩ (.refl w)
 · cases hq : quietB o with
   | true =>
     rw [hq] at hs
     simp only [cond_true] at hs
     obtain ⟨v, x, hK, hv, hrun⟩ := zv8 hs M F
     unfold Oper.wp
     rw [zbb, hrun w (.inr (M.hs _ rfl))]
     exact hn v w ⟨D, ρ, m, chs, x, .refl, M, hv, hK⟩ (.refl w)
   | false =>
     rw [hq] at hs
     simp only [cond_false] at hs
     exact zew (eff_S hcall hx hs M F) (zbb a) rfl hn
theorem znd : ∀ (t : List V) (d : Nat), zph t d (zhv t d) = t
 | [], _ => rfl
 | _ :: _, 0 => rfl
 | y :: t, d + 1 => by simp only [zph, zhv]; rw [znd t d]
theorem zqm {a : Act} {A B : List V → Prop} (hs : zoi ops o t A B) (F : RpL D ρ a.tmps.toList t) :
 (Region.wanted o (yielded ops.toArray a.tmps) = true ∧ A t) ∨ (Region.wanted o (yielded ops.toArray a.tmps) = false ∧ B t) := by
 have key : zl7 ops o a.tmps.toList (fun _ => A t) (fun _ => B t) := by
  unfold zoi at hs
  unfold zl7
  split at hs
  · rename_i hg; (try rw [hg]); exact hs
  · rename_i hg; (try rw [hg]); exact hs
  · rename_i d want hg
    (try rw [hg])
    split at hs
    · rename_i c he
      have hv := F.get d
      rw [he] at hv
      simp only [zne hv]
      have e : zph t d (.u (.b c)) = t := by rw [← he]; exact znd t d
      cases c <;> cases want <;> simp only [cond_true, cond_false] at hs ⊢ <;> (rw [e] at hs; exact hs)
    · rename_i he
      have hv := F.get d
      rw [he] at hv
      have e : ze5 a.tmps.toList d = undef := by
       generalize ze5 a.tmps.toList d = v at hv
       cases hv with
       | t h => cases h; rfl
      simp only [e, undef]
      exact hs
    · exact hs.elim
 exact zoh key
structure UpS (md : List Nat) (T : List Value) (w : World) (ro hr : List Nat) (D : Fz) (ρ : List Loc) (m : Mem) (chs C : List zac) (K : List V → Mem → Prop) (a' : Act) (w' : World) : Prop where
 df : a'.defers = []
 sm : Same w w'
 ag : Agr md T a'.tmps.toList
 ex : ∃ D' ρ' m' chs' t', Nx ro hr D ρ m chs D' ρ' m' chs' ∧ SAt D' ρ' m' chs' C w'.heap ∧ RpL D' ρ' a'.tmps.toList t' ∧ K t' m'
def wpG (P : Program) (ops : List Oper) (Q : Exit → Act → World → Prop) : Nat → List (Nat × (World → Prop)) → Array Bool → Act → World → Prop
 | 0, _, listed, a, w => Region.ready .any ops.toArray listed = [] ∧ Q .normal a w
 | n + 1, Cs, listed, a, w => (Region.ready .any ops.toArray listed = [] → Q .normal a w) ∧
   ∀ i ∈ Region.ready .any ops.toArray listed, wpOp P ops.toArray Q i (fun a' w' => (∀ c ∈ Cs, waits ops ops.length c.1 i = false → c.2 w → c.2 w') ∧ wpG P ops Q n (Cs.filter fun c => !waits ops ops.length c.1 i) (listed.setIfInBounds i true) a' w') a w
theorem zo4 {ops : List Oper} {Q : Exit → Act → World → Prop} : ∀ (n : Nat) (Cs : List (Nat × (World → Prop))) (listed : Array Bool) (a : Act) (w : World), wpG P ops Q n Cs listed a w → wpAny P .any ops.toArray Q n listed a w
 | 0, _, _, _, _, h => h
 | n + 1, _, _, _, _, h => ⟨h.1, fun i hi => wpOp_mono (fun a' w' hh => zo4 n _ _ a' w' hh.2) (h.2 i hi)⟩
theorem zq6 {ops : List Oper} {Q : Exit → Act → World → Prop} : ∀ (n : Nat) (Cs Cs' : List (Nat × (World → Prop))) (listed : Array Bool) (a : Act) (w : World), (∀ c ∈ Cs, c ∈ Cs') → wpG P ops Q n Cs' listed a w → wpG P ops Q n Cs listed a w
 | 0, _, _, _, _, _, _, h => h
 | n + 1, Cs, Cs', listed, a, w, hs, h => ⟨h.1, fun k hk => wpOp_mono (fun a' w' hh => ⟨fun c hc => hh.1 c (hs c hc), zq6 n _ _ _ _ _ (fun c hc => by
     rw [z0f] at hc ⊢; exact ⟨hs c hc.1, hc.2⟩) hh.2⟩) (h.2 k hk)⟩
theorem zhs {i : Nat} {oi : Oper} {C : World → Prop} (hi : ops[i]? = some oi)
 (hsel : ∀ (j : Nat) (o : Oper) cs b, ops[j]? = some o → o.op ≠ .select cs b) (hQ : ∀ c a w, ¬ Q (.panic c) a w) (hQo : ∀ a w, ¬ Q .outgrown a w) :
 ∀ (fuel : Nat) (Cs Cs' : List (Nat × (World → Prop))) (listed : Array Bool) (a : Act) (w : World), (∀ c ∈ Cs, c ∈ Cs') → ((∀ w, C w) ∨ (i, C) ∈ Cs') → Closed ops listed →
   (∀ j oj, ops[j]? = some oj → j ≠ i → listed.getD j true = false → (∀ e ∈ oj.after, Region.binds .any e = true → e.on ≠ i) → oi.apart ops.toArray oj = true) →
   i ∈ Region.ready .any ops.toArray listed → YieldC P ops oi v C a → C w →
   wpG P ops Q fuel Cs' (listed.setIfInBounds i true) (a.put oi.dst v) w → wpG P ops Q (fuel + 1) Cs listed a w := by
 intro fuel
 induction fuel with
 | zero =>
   intro Cs Cs' listed a w hsub hiC hcl _ hr hy hCw H
   refine ⟨fun h => (by rw [h] at hr; cases hr), fun j hj => ?_⟩
   by_cases hji : j = i
   · subst hji; exact hy.wpOp hi hCw ⟨fun _ _ _ h => h, H⟩
   · have := ready_mono hj hji
     rw [H.1] at this
     cases this
 | succ fuel ih =>
   intro Cs Cs' listed a w hsub hiC hcl hfree hr hy hCw H
   refine ⟨fun h => (by rw [h] at hr; cases hr), fun j hj => ?_⟩
   by_cases hji : j = i
   · subst hji
     refine hy.wpOp hi hCw ⟨fun _ _ _ h => h, zq6 _ _ _ _ _ _ (fun c hc => hsub c (z0f.1 hc).1) H⟩
   · have h1 := H.2 j (ready_mono hj hji)
     obtain ⟨hjun, oj, hoj, hall⟩ := mem_ready.1 hj
     have hoj' : ops[j]? = some oj := by simpa using hoj
     have hiun := (mem_ready.1 hr).1
     have hil : listed.getD i false = false := by
      rcases z0o i listed.size with h' | h'
      · simp [h'] at hiun ⊢; exact hiun
      · simp [Array.getElem?_eq_none h'] at hiun
     have hnot : ∀ e ∈ oj.after, Region.binds .any e = true → e.on ≠ i := fun e he hb heq => by
      have h1 := hall e he hb
      rw [heq, hil] at h1
      cases h1
     have hnw : waits ops ops.length i j = false := by
      cases hw : waits ops ops.length i j with
      | false => rfl
      | true =>
        have := zgy hcl ops.length j oj hoj' hall hw
        rw [hil] at this; cases this
     have h2 := zuu hoj' (hfree j oj hoj' hji hjun hnot) (fun cs b => hsel i oi cs b hi) (fun cs b => hsel j oj cs b hoj') hQ hQo hy h1
     have hfree' : ∀ k ok, ops[k]? = some ok → k ≠ i → (listed.setIfInBounds j true).getD k true = false →
      (∀ e ∈ ok.after, Region.binds .any e = true → e.on ≠ i) → oi.apart ops.toArray ok = true := fun k ok hk hki hun hno => by
      refine hfree k ok hk hki ?_ hno
      by_cases hjk : j = k
      · subst hjk; exact hjun
      · rw [getD_set_ne true hjk] at hun; exact hun
     refine wpOp_mono (fun a' w' h3 => ⟨fun c hc => h3.2.1 c (hsub c hc), ih _ (Cs'.filter fun c => !waits ops ops.length c.1 j) (listed.setIfInBounds j true) a' w' (fun c hc => by rw [z0f] at hc ⊢; exact ⟨hsub c hc.1, hc.2⟩) ?_ (hcl.set hj) hfree' (ready_mono hr (Ne.symm hji)) h3.1 ?_ ?_⟩) h2
     · rcases hiC with hC | hC
       · exact .inl hC
       · exact .inr (z0f.2 ⟨hC, by simp [hnw]⟩)
     · rcases hiC with hC | hC
       · exact hC w'
       · exact h3.2.1 (i, C) hC hnw hCw
     · rw [Array.setIfInBounds_comm _ _ hji]
       exact h3.2.2
def HeldOk (D : Fz) (chs : List zac) (held : List (Nat × List Nat)) (Cs : List (Nat × (World → Prop))) : Prop :=
 ∀ c ∈ Cs, ∃ bs, (c.1, bs) ∈ held ∧ ∀ w, Hs D chs bs w → c.2 w
theorem zog {ops : List Oper} {e : Nat} : ∀ {held : List (Nat × List Nat)} {i : Nat} {bs : List Nat} {b : Nat}, (i, bs) ∈ held → waits ops ops.length i e = false → inL bs b = true → inL (zt1 ops e held) b = true
 | (j, cs) :: held, i, bs, b, hm, hw, hb => by
   simp only [zt1]
   rcases zy3.1 hm with h1 | h1
   · cases h1
     rw [hw, cond_false]
     exact zl6 hb
   · have := zog h1 hw hb
     cases waits ops ops.length j e
     · rw [cond_false, inL_iff, zy6]; exact .inr (inL_iff.1 this)
     · exact this
theorem Nx.weak {hx : List Nat} (n : Nx ro (hx ++ hr) D ρ m chs D' ρ' m' chs') : Nx ro hr D ρ m chs D' ρ' m' chs' where
 le := n.le
 pre := n.pre
 keep b h1 h2 := n.keep b (by rw [inL_iff] at h1 ⊢; simp [h1]) h2
 same b h1 h2 := n.same b (by rw [inL_iff] at h1 ⊢; simp at h1 ⊢; rcases h1 with h1 | h1 <;> simp [h1]) h2
 len := n.len
theorem draw_S (hX : ∀ {D D' : Fz} {ρ : List Loc} (s : List Loc), X D ρ → Le D D' → X D' (ρ ++ s)) {call : List Nat → zel} (hcall : ∀ hx, zga P X ro (hx ++ hr) (call (hx ++ hr))) {K : List V → Mem → Prop} {md : List Nat} (hsel : Region.noSelect ops.toArray = true)
 (hQ : ∀ c a w, ¬ Q (.panic c) a w) (hQo : ∀ a w, ¬ Q .outgrown a w) (hm : ∀ o ∈ ops, ∀ d, o.dst = some d → d ∈ md) :
 ∀ (n : Nat) (done : List Nat) (held : List (Nat × List Nat)) (Cs : List (Nat × (World → Prop))) (listed : Array Bool) (a : Act) (w : World) (t : List V) (D : Fz) (ρ : List Loc) (m : Mem) (chs : List zac), zgt P vw ro hr call ops K n done held t m → zqs ops n done = true →
   Lst ops done listed → Closed ops listed → a.defers = [] → X D ρ → SAt D ρ m chs C w.heap → RpL D ρ a.tmps.toList t → HeldOk D chs held Cs → (∀ a' w', UpS md a.tmps.toList w ro hr D ρ m chs C K a' w' → Q .normal a' w') → wpG P ops Q n Cs listed a w := by
 intro n
 induction n with
 | zero =>
   intro done held Cs listed a w t D ρ m chs hh hB hL hcl hd xx M F hH hK
   refine ⟨?_, hK a w ⟨hd, .refl w, .refl _ _, D, ρ, m, chs, t, .refl, M, F, hh⟩⟩
   simp only [zqs, z0d, z1c] at hB
   rw [List.eq_nil_iff_forall_not_mem]
   intro i hi
   obtain ⟨h0, o, ho, -⟩ := mem_ready.1 hi
   have hlt : i < ops.length := by
    have := (z2y.1 ho).1
    simpa using this
   rw [hL.eq i hlt, hB i hlt] at h0
   cases h0
 | succ n ih =>
   intro done held Cs listed a w t D ρ m chs hh hB hL hcl hd xx M F hH hK
   simp only [zgt] at hh
   simp only [zqs] at hB
   have sel : ∀ (j : Nat) (o : Oper) cs b, ops[j]? = some o → o.op ≠ .select cs b := fun j o cs b hj => Region.noSelect_spec hsel j o cs b (by simpa using hj)
   -- what is shown of the rest
   have rest : ∀ (i : Nat) (o : Oper) (ho : ops[i]? = some o) (hri : i ∈ Region.ready .any ops.toArray listed) (hB2 : zqs ops n (i :: done) = true) (held' : List (Nat × List Nat)) (Cs' : List (Nat × (World → Prop))) (v : Value) (x : V) (w' : World) (D' : Fz) (ρ' : List Loc) (m' : Mem) (chs' : List zac),
    zgt P vw ro hr call ops K n (i :: done) held' (vput t o.dst x) m' → Same w w' → Nx ro hr D ρ m chs D' ρ' m' chs' → SAt D' ρ' m' chs' C w'.heap → Rp D' ρ' v x → HeldOk D' chs' held' Cs' →
    wpG P ops Q n Cs' (listed.setIfInBounds i true) (a.put o.dst v) w' := fun i o ho hri hB2 held' Cs' v x w' D' ρ' m' chs' h1 hS nx M' hv hH' => by
    have hilt : i < ops.length := (zyz.1 ho).1
    have homem : o ∈ ops := zy4 ho
    have hput : ∀ v, Agr md a.tmps.toList (a.put o.dst v).tmps.toList := fun v => by rw [zeq]; exact .put v fun d hd => hm o homem d hd
    refine ih (i :: done) held' Cs' _ (a.put o.dst v) w' _ D' ρ' m' chs' h1 hB2 (hL.set i hilt) (hcl.set hri) (by rw [zaj]; exact hd) (by obtain ⟨s, rfl⟩ := nx.pre; exact hX s xx nx.le) M' (by rw [zeq]; exact (nx.rpL F).put hv) hH' fun a' w'' hU => ?_
    obtain ⟨D2, ρ2, m2, c2, t2, n2, r⟩ := hU.ex
    exact hK a' w'' ⟨hU.df, hS.trans hU.sm, (hput v).trans hU.ag, D2, ρ2, m2, c2, t2, nx.trans n2, r⟩
   cases hn : nextQ ops done with
   | some i =>
     obtain ⟨hrd, o, ho, hq⟩ := ztr hn
     rw [hn] at hh hB
     simp only [ho, zyy] at hh hB
     obtain ⟨hB1, hB2⟩ := hB
     have hri : i ∈ Region.ready .any ops.toArray listed := (zgn hL).2 hrd
     have rest := rest i o ho hri hB2
     have hfree : ∀ j oj, ops[j]? = some oj → j ≠ i → listed.getD j true = false → (∀ e ∈ oj.after, Region.binds .any e = true → e.on ≠ i) → o.apart ops.toArray oj = true := by
      intro j oj hj hji hun hno
      have hjlt : j < ops.length := (zyz.1 hj).1
      have h1 := z0d.1 hB1 j (z1c.2 hjlt)
      rw [hj] at h1
      rw [hL.eq j hjlt] at hun
      simp only [z1p, beq_iff_eq, hji, false_or, hun, z0x, List.any_eq_true, zyy] at h1
      rcases h1 with ⟨e, he, hb, hon⟩ | h1
      · exact absurd hon (hno e (by simpa using he) hb)
      · exact h1
     rcases zqm hh F with ⟨hw, h1⟩ | ⟨hw, h1⟩
     · obtain ⟨v, x, hKx, hv, hr'⟩ := zv8 h1 M F
       cases hp : znt o with
       | true =>
         rw [hp] at hKx
         simp only [cond_true] at hKx
         exact zhs (C := fun _ => True) ho sel hQ hQo n Cs Cs listed a w (fun _ h => h) (.inl fun _ => trivial) hcl hfree hri (.inl ⟨hw, fun w' _ => by rw [zbb]; exact hr' w' (.inl hp)⟩) trivial (rest held Cs v x w D ρ m chs hKx (.refl w) .refl M hv hH)
       | false =>
         rw [hp] at hKx
         simp only [cond_false] at hKx
         refine zhs (C := fun w' => (execOp (ev a.tmps.toList) o).run P w' = .ok (.value v) w') ho sel hQ hQo n Cs ((i, fun w' => (execOp (ev a.tmps.toList) o).run P w' = .ok (.value v) w') :: Cs) listed a w (fun c hc => zzo _ hc)
          (.inr (zzq ..)) hcl hfree hri (.inl ⟨hw, fun w' hw' => by rw [zbb]; exact hw'⟩) (hr' w (.inr (M.hs _ rfl))) (rest _ _ v x w D ρ m chs hKx (.refl w) .refl M hv ?_)
         intro c hc
         rcases zy3.1 hc with rfl | hc
         · exact ⟨_, zzq .., fun w hw => hr' w (.inr hw)⟩
         · obtain ⟨bs, h1, h2⟩ := hH c hc
           exact ⟨bs, zzo _ h1, h2⟩
     · exact zhs (C := fun _ => True) ho sel hQ hQo n Cs Cs listed a w (fun _ h => h) (.inl fun _ => trivial) hcl hfree hri (.inr ⟨hw, rfl⟩) trivial (rest held Cs undef (.t []) w D ρ m chs h1 (.refl w) .refl M (.t .nil) hH)
   | none =>
     rw [hn] at hh hB
     simp only at hh hB
     obtain ⟨hne, hall⟩ := zks hh
     have hmem : ∀ j, j ∈ Region.ready .any ops.toArray listed → j ∈ zic ops done := fun j hj => by
      have hjr := (zgn hL).1 hj
      have hjlt : j < ops.length := by
       obtain ⟨oj, hoj, -⟩ := (mem_ready.1 hj).2
       have := (z2y.1 hoj).1
       simpa using this
      exact z0f.2 ⟨z1c.2 hjlt, hjr⟩
     refine ⟨fun h0 => ?_, fun j hj => ?_⟩
     · cases hr : zic ops done with
       | nil => exact (hne hr).elim
       | cons j l =>
         have h1 : j ∈ zic ops done := by rw [hr]; exact zzq ..
         have h2 : j ∈ Region.ready .any ops.toArray listed := (zgn hL).2 (z0f.1 h1).2
         rw [h0] at h2; cases h2
     · have hjm := hmem j hj
       have hh := hall j hjm
       have hB := z0d.1 hB j hjm
       cases ho : ops[j]? with
       | none => rw [ho] at hh; exact hh.elim
       | some o =>
         rw [ho] at hh hB
         simp only [zyy, zzt, z2e] at hh hB
         obtain ⟨⟨hp, hro⟩, hB2⟩ := hB
         have rest := rest j o ho hj hB2
         unfold wpOp
         simp only [z0a, ho]
         rcases zqm hh F with ⟨hw, h1⟩ | ⟨hw, h1⟩
         · rw [if_pos hw]
           refine .inl (zew (eff_S (hcall _) xx h1 M F) (zbb a) rfl fun v w' hP hS => ?_)
           obtain ⟨D', ρ', m', chs', x, nx, M', hv, hKx⟩ := hP
           have keep : ∀ c ∈ Cs, ∀ bs, (c.1, bs) ∈ held → waits ops ops.length c.1 j = false → ∀ b, inL bs b = true → b < chs.length → chs'[b]? = chs[b]? := fun c _ bs hbs hwt b hb hlt =>
            nx.keep b (zl6 (zog hbs hwt hb)) (by rw [← M.lch]; exact hlt)
           refine ⟨fun c hc hcw _ => ?_, ?_⟩
           · obtain ⟨bs, g1, g2⟩ := hH c hc
             refine g2 w' fun bb ob hcov => ?_
             rcases hcov with hd | ⟨b, ch, h3, h4, h5⟩
             · exact (M'.st.fz bb ob (nx.le _ _ hd)).1
             · exact M'.own (b := b) (ch := ch) (by rw [keep c hc bs g1 hcw b h3 (zyz.1 h4).1]; exact h4) h5
           · refine rest held _ v x w' D' ρ' m' chs' hKx hS nx.weak M' hv fun c hc => ?_
             rw [z0f] at hc
             have hcw : waits ops ops.length c.1 j = false := by simpa using hc.2
             obtain ⟨bs, g1, g2⟩ := hH c hc.1
             refine ⟨bs, g1, fun w2 hw2 => g2 w2 fun bb ob hcov => hw2 bb ob ?_⟩
             rcases hcov with hd | ⟨b, ch, h3, h4, h5⟩
             · exact .inl (nx.le _ _ hd)
             · exact .inr ⟨b, ch, h3, by rw [keep c hc.1 bs g1 hcw b h3 (zyz.1 h4).1]; exact h4, h5⟩
         · rw [if_neg (by rw [hw]; simp)]
           exact ⟨fun _ _ _ h => h, rest held _ undef (.t []) w D ρ m chs h1 (.refl w) .refl M (.t .nil) fun c hc => hH c (z0f.1 hc).1⟩
end
section
variable {P : Program} {D D' : Fz} {ρ ρ' : List Loc} {m m' : Mem} {chs C : List zac} {h h' : zaf} {T : List Value} {t : List V} {ro hr : List Nat}
def zun : Pt → It → Bool
 | .i k, .v (.u (.i k' _)) => zyw (zax k) (zax k')
 | .b, .v (.u (.b _)) => true
 | .s, .v (.u (.s _)) => true
 | .l s, .v (.u (.l s' _)) => zyw s s'
 | .p, .v (.u (.p _)) => true
 | .n w, .v (.n .i64 w' _) => zyw w w'
 | .ow E sz, .e (.w E' sz' _) => zyw E E' && zyw sz sz'
 | .row E sz, .e (.w E' sz' _) => zyw E E' && zyw sz sz'
 | .A, .e (.o _) => true
 | .w j, .v (.w j') => zyw j j'
 | .r j o, .v (.r j' o') => zyw j j' && zyw o o'
 | .m j, .v (.m j') => zyw j j'
 | .nm, .v .nm => true
 | .z, .v .z => true
 | .X, .e .x => true
 | .mp kt sz ag, .e (.p kt' sz' ag' _) => ktEq kt kt' && zyw sz sz' && (ag == ag')
 | _, _ => false
theorem app_lam {X : Type} (ho : zun y i = true) (K : It → X) : y.app (y.lam K) i = some (K i) := by
 unfold zun at ho
 split at ho
 case h_1 k k' n =>
  have := zeu (zy1 ho)
  subst this; rfl
 case h_4 s s' c =>
  have := zy1 ho
  subst this; rfl
 case h_6 w w' c =>
  have := zy1 ho
  subst this; rfl
 case h_7 =>
  simp only [zyy] at ho
  have h1 := zy1 ho.1
  have h2 := zy1 ho.2
  subst h1 h2; rfl
 case h_8 =>
  simp only [zyy] at ho
  have h1 := zy1 ho.1
  have h2 := zy1 ho.2
  subst h1 h2; rfl
 case h_10 =>
  have := zy1 ho
  subst this; rfl
 case h_11 =>
  simp only [zyy] at ho
  have h1 := zy1 ho.1
  have h2 := zy1 ho.2
  subst h1 h2; rfl
 case h_12 =>
  have := zy1 ho
  subst this; rfl
 case h_16 =>
  simp only [zyy, beq_iff_eq] at ho
  have h1 := zfw ho.1.1
  have h2 := zy1 ho.1.2
  have h3 := ho.2
  subst h1 h2 h3; rfl
 all_goals first | rfl | cases ho
theorem zmk {X : Type} (ho : zun y i = true) (F : y.Fn X) : ∃ G, y.app F i = some G := by
 unfold zun at ho
 split at ho <;> first | exact ⟨_, rfl⟩ | cases ho
theorem app_zip {X Y Z : Type} (ho : zun y i = true) {a : y.Fn X} {b : y.Fn Y} (G : X → Y → Z) {a' : X} {b' : Y} (ha : y.app a i = some a') (hb : y.app b i = some b') : y.app (y.zip a b G) i = some (G a' b') := by
 unfold zun at ho
 split at ho <;> first | (cases ha; cases hb; rfl) | cases ho
theorem app_all {X : Type} (ho : zun y i = true) {a : y.Fn X} {K : X → Prop} (hall : y.all a K) {a' : X} (ha : y.app a i = some a') : K a' := by
 unfold zun at ho
 split at ho <;> first | (cases ha; exact hall _) | (cases ha; exact hall) | cases ho
inductive OkL : List Pt → List It → Prop
 | nil : OkL [] []
 | cons {y : Pt} {i : It} {ps : List Pt} {is : List It} : zun y i = true → OkL ps is → OkL (y :: ps) (i :: is)
theorem OkL.app {qs : List Pt} {js : List It} (h1 : OkL ps is) (h2 : OkL qs js) : OkL (ps ++ qs) (is ++ js) := by
 induction h1 with
 | nil => exact h2
 | cons a _ ih => exact .cons a ih
theorem OkL.len (h1 : OkL ps is) : is.length = ps.length := by
 induction h1 with
 | nil => rfl
 | cons a _ ih => simp [ih]
theorem zyn {R : Type} {d : R} (ho : OkL ps is) : ∀ (K : List It → R), apP d ps (mkP ps K) is = K is := by
 induction ho with
 | nil => intro K; rfl
 | cons a _ ih =>
   intro K
   simp only [mkP, apP]
   rw [app_lam a]
   exact ih _
theorem zqz {X Y Z : Type} {G : X → Y → Z} {d : Z} {d1 : X} {d2 : Y} (ho : OkL ps is) : ∀ (a : PtT X ps) (b : PtT Y ps), apP d ps (zipP G ps a b) is = G (apP d1 ps a is) (apP d2 ps b is) := by
 induction ho with
 | nil => intro a b; rfl
 | cons hi _ ih =>
   intro a b
   obtain ⟨a', ha⟩ := zmk hi a
   obtain ⟨b', hb⟩ := zmk hi b
   simp only [zipP, apP]
   rw [app_zip hi _ ha hb, ha, hb]
   exact ih a' b'
theorem allP_ap (ho : OkL ps is) : ∀ {a : PtT Prop ps}, allP ps a → apP False ps a is := by
 induction ho with
 | nil => intro a hh; exact hh
 | cons hi _ ih =>
   intro a hh
   obtain ⟨a', ha⟩ := zmk hi a
   simp only [apP, ha]
   exact ih (app_all hi hh ha)
theorem zyp : ∀ (ps : List Pt) (K : List It → Prop), allP ps (zipP (fun (A B : Prop) => A → B) ps (mkP ps K) (mkP ps K)) := by
 intro ps
 induction ps with
 | nil => intro K; exact id
 | cons y ps ih =>
   intro K
   simp only [allP, zipP, mkP]
   cases y <;> simp only [Pt.all, Pt.zip, Pt.lam] <;> first | (intro n; exact ih _) | exact ih _
theorem SAt.take (M : SAt D ρ m chs C h) (hL : ρ[b]? = some L) (hc : chs[b]? = some ch) : SAt D ρ (ms m b .x) (chs.set b []) (ch :: C) h :=
 M.put (C' := ch :: C) hL hc (ch' := []) (by
  have hlt := (zyz.1 hc).1
  have S' := M.front hc
  rw [z02 hlt] at S' ⊢
  exact S'.mid.nil) (.refl D) .x
theorem SAt.perm (M : SAt D ρ m chs C h) (p : C.flatten.Perm C'.flatten) : SAt D ρ m chs C' h :=
 M.mono (.refl D) (M.st.perm (by simp only [zzs]; exact p.append_left _))
theorem SAt.kill (M : SAt D ρ m chs C h) (b : Nat) : ∃ ch, SAt D ρ (ms m b .x) (chs.set b []) (ch :: C) h ∧ (b < m.length → chs[b]? = some ch) := by
 by_cases hb : b < m.length
 · have hr : b < ρ.length := by rw [M.len]; exact hb
   have hc : b < chs.length := by rw [M.lch]; exact hb
   exact ⟨_, M.take (zy0 hr) (zy0 hc), fun _ => zy0 hc⟩
 · have e1 : ms m b .x = m := by rw [zlv]; exact z12 (by omega)
   have e2 : chs.set b [] = chs := z12 (by rw [M.lch]; omega)
   refine ⟨[], ?_, fun h => absurd h hb⟩
   rw [e1, e2]
   exact M.perm (by simp)
inductive OV (D : Fz) (ρ : List Loc) (lim : Nat) : List Value → List It → List zac → Prop
 | nil : OV D ρ lim [] [] []
 | v {v : Value} {x : V} {vs : List Value} {os : List It} {tk : List zac} : Rp D ρ v x → (∀ b ∈ zae x, b < lim) → (∀ k w l, x ≠ .n k w l) → OV D ρ lim vs os tk → OV D ρ lim (v :: vs) (.v x :: os) tk
 | n {w : Nat} {l : List Int} {vs : List Value} {os : List It} {tk : List zac} : l.length = w → OV D ρ lim vs os tk → OV D ρ lim (l.map (.int .i64) ++ vs) (.v (.n .i64 w l) :: os) tk
 | e {L : Loc} {E sz : Nat} {rows : List (List U)} {ch : zac} {vs : List Value} {os : List It} {tk : List zac} : Ent D ρ L (.w E sz rows) ch → OV D ρ lim vs os tk → OV D ρ lim (.slice L.a L.n L.c :: vs) (.e (.w E sz rows) :: os) (ch :: tk)
theorem pk1_kill (h1 : pk1 lim m y x = some (i, m')) (b : Nat) : mg m' b = mg m b ∨ mg m' b = .x := by
 unfold pk1 at h1
 have key : ∀ {c : Bool} {i' : It}, (cond c (some (i', m)) none) = some (i, m') → mg m' b = mg m b ∨ mg m' b = .x := by
  intro c i' hh
  cases c <;> cases hh
  exact .inl rfl
 split at h1 <;> first
  | exact key h1
  | (cases h1; done)
  | (cases h1; exact .inl rfl)
  | (rename_i E sz j
     split at h1
     · rename_i E' sz' rows hm
       cases hb : (zyw E E' && zyw sz sz') with
       | false => rw [hb] at h1; cases h1
       | true =>
         rw [hb] at h1
         cases h1
         by_cases hbj : j = b
         · subst hbj; exact .inr (zw2 (mg_lt (by rw [hm]; simp)))
         · exact .inl (zbe hbj)
     · cases h1)
theorem zes {lim : Nat} : ∀ {ps : List Pt} {xs : List V} {m m' : Mem} {os : List It}, pkV lim m ps xs = some (os, m') → ∀ b, mg m' b = mg m b ∨ mg m' b = .x
 | [], [], m, m', os, hp => by cases hp; exact fun b => .inl rfl
 | [], _ :: _, m, m', os, hp => by cases hp
 | _ :: _, [], m, m', os, hp => by cases hp
 | y :: ps, x :: xs, m, m', os, hp => by
   simp only [pkV] at hp
   split at hp
   · rename_i o m1 h1
     split at hp
     · rename_i os' m2 h2
       cases hp
       intro b
       rcases zes h2 b with h3 | h3
       · rcases pk1_kill h1 b with h4 | h4
         · exact .inl (h3.trans h4)
         · exact .inr (h3.trans h4)
       · exact .inr h3
     · cases hp
   · cases hp
theorem zir (m : Mem) (j b : Nat) : mg (ms m j .x) b = mg m b ∨ mg (ms m j .x) b = .x := by
 by_cases hbj : j = b
 · subst hbj
   by_cases hlt : j < m.length
   · exact .inr (zw2 hlt)
   · refine .inl ?_
     rw [zlv, z12 (by omega)]
 · exact .inl (zbe hbj)
theorem zch {lim : Nat} : ∀ {ps : List BP} {js : List Nat} {m m' : Mem} {os : List It}, pkB lim m ps js = some (os, m') → ∀ b, mg m' b = mg m b ∨ mg m' b = .x
 | [], [], m, m', os, hp => by cases hp; exact fun b => .inl rfl
 | [], _ :: _, m, m', os, hp => by cases hp
 | _ :: _, [], m, m', os, hp => by cases hp
 | y :: ps, j :: js, m, m', os, hp => by
   simp only [pkB] at hp
   split at hp
   · rename_i o m1 h1
     split at hp
     · rename_i os' m2 h2
       cases hp
       have h1k : ∀ b, mg m1 b = mg m b ∨ mg m1 b = .x := by
        intro b
        cases y with
        | A => simp only [zwr] at h1; split at h1 <;> cases h1; exact zir m j b
        | X => simp only [zwr] at h1; cases h1; exact zir m j b
        | row E sz =>
          simp only [zwr] at h1
          split at h1
          · rename_i E' sz' rows hm
            cases hb : (zyw E E' && zyw sz sz') <;> rw [hb] at h1 <;> cases h1
            exact zir m j b
          · cases h1
        | mp kt sz ag =>
          simp only [zwr] at h1
          split at h1
          · rename_i kt' sz' ag' rows hm
            cases hb : (ktEq kt kt' && zyw sz sz' && (ag == ag')) <;> rw [hb] at h1 <;> cases h1
            exact zir m j b
          · cases h1
        | c qs =>
          simp only [zwr] at h1
          split at h1
          · rcases zes h1 b with h3 | h3
            · rcases zir m j b with h4 | h4
              · exact .inl (h3.trans h4)
              · exact .inr (h3.trans h4)
            · exact .inr h3
          · cases h1
       intro b
       rcases zch h2 b with h3 | h3
       · rcases h1k b with h4 | h4
         · exact .inl (h3.trans h4)
         · exact .inr (h3.trans h4)
       · exact .inr h3
     · cases hp
   · cases hp
theorem zdh {j : Nat} {c' : List zac} (hk : ∀ b, mg m' b = mg (ms m j .x) b ∨ mg m' b = .x) (kk : ∀ b, mg m' b ≠ .x → c'[b]? = (chs.set j [])[b]?) : ∀ b, mg m' b ≠ .x → c'[b]? = chs[b]? := by
 intro b hb
 rw [kk b hb, zzp]
 rintro rfl
 rcases hk j with h1 | h1
 · by_cases hlt : j < m.length
   · exact hb (h1.trans (zw2 hlt))
   · exact hb (h1.trans (by rw [ziu, zlv, z12 (by omega), z0m (by omega)]; rfl))
 · exact hb h1
theorem zpy {lim : Nat} : ∀ {ps : List Pt} {xs : List V} {m m' : Mem} {os : List It} {vs : List Value} {chs C : List zac}, pkV lim m ps xs = some (os, m') → SAt D ρ m chs C h → RpC D ρ vs xs →
 ∃ tk chs', SAt D ρ m' chs' (tk ++ C) h ∧ OV D ρ lim vs os tk ∧ OkL ps os ∧ ∀ b, mg m' b ≠ .x → chs'[b]? = chs[b]?
 | [], [], m, m', os, vs, chs, C, hp, M, hv => by cases hp; cases hv; exact ⟨[], chs, M, .nil, .nil, fun _ _ => rfl⟩
 | [], _ :: _, m, m', os, vs, chs, C, hp, M, hv => by cases hp
 | _ :: _, [], m, m', os, vs, chs, C, hp, M, hv => by cases hp
 | y :: ps, x :: xs, m, m', os, vs, chs, C, hp, M, hv => by
   simp only [pkV] at hp
   split at hp
   · rename_i o m1 h1
     split at hp
     · rename_i os' m2 h2
       cases hp
       -- a value
       have val : ∀ {v : Value} {vs' : List Value} {x' : V}, vs = v :: vs' → m1 = m → o = .v x' → Rp D ρ v x' → (∀ b ∈ zae x', b < lim) → (∀ k w l, x' ≠ .n k w l) → zun y (.v x') = true → RpC D ρ vs' xs →
        ∃ tk chs', SAt D ρ m' chs' (tk ++ C) h ∧ OV D ρ lim vs (o :: os') tk ∧ OkL (y :: ps) (o :: os') ∧ ∀ b, mg m' b ≠ .x → chs'[b]? = chs[b]? := by
        intro v vs' x' e1 e2 e3 hv' hl hn ho hvs
        subst e1 e2 e3
        obtain ⟨tk, c', M2, o2, k2, kk⟩ := zpy h2 M hvs
        exact ⟨tk, c', M2, .v hv' hl hn o2, .cons ho k2, kk⟩
       unfold pk1 at h1
       split at h1
       · -- int
         rename_i k k' n
         cases hb : zyw (zax k) (zax k') with
         | false => rw [hb] at h1; cases h1
         | true =>
           rw [hb] at h1
           cases h1
           have := zeu (zy1 hb)
           subst this
           cases hv with | cons a n b => exact val rfl rfl rfl a (by simp [zae]) (by simp) hb b
       · cases h1; cases hv with | cons a n b => exact val rfl rfl rfl a (by simp [zae]) (by simp) rfl b
       · cases h1; cases hv with | cons a n b => exact val rfl rfl rfl a (by simp [zae]) (by simp) rfl b
       · rename_i sz sz' c
         cases hb : zyw sz sz' with
         | false => rw [hb] at h1; cases h1
         | true =>
           rw [hb] at h1
           cases h1
           have := zy1 hb
           subst this
           cases hv with | cons a n b => exact val rfl rfl rfl a (by simp [zae]) (by simp) hb b
       · rename_i sz sz' c
         cases hb : zyw sz sz' with
         | false => rw [hb] at h1; cases h1
         | true =>
           rw [hb] at h1
           cases h1
           have := zy1 hb
           subst this
           cases hv with | cons a n b => cases a with | c hr => exact val rfl rfl rfl (.u hr) (by simp [zae]) (by simp) hb b
       · rename_i sz
         cases h1
         cases hv with | cons a n b => cases a; exact val rfl rfl rfl (.u (.nil _ _ _)) (by simp [zae]) (by simp) (Nat.beq_refl _) b
       · cases h1; cases hv with | cons a n b => exact val rfl rfl rfl a (by simp [zae]) (by simp) rfl b
       · cases h1
         cases hv with
         | cons a n b =>
           obtain ⟨p, o, hr, hvv⟩ := a.q_inv
           exact val (by rw [hvv]; rfl) rfl rfl (.u hr) (by simp [zae]) (by simp) rfl b
       · rename_i nw k w' c
         cases hb : (zyw nw w' && zyw (zax k) 3) with
         | false => rw [hb] at h1; cases h1
         | true =>
           rw [hb] at h1
           cases h1
           simp only [zyy] at hb
           have := zy1 hb.1
           subst this
           have hk : k = .i64 := by
            have := hb.2
            cases k <;> first | rfl | simp [zax] at this
           subst hk
           cases hv with
           | cons a n b => exact absurd rfl (n _ _ _)
           | n hl b =>
             obtain ⟨tk, c', M2, o2, k2, kk⟩ := zpy h2 M b
             exact ⟨tk, c', M2, .n hl o2, .cons hb.1 k2, kk⟩
       · rename_i E sz j
         split at h1
         · rename_i E' sz' rows hm
           cases hb : (zyw E E' && zyw sz sz') with
           | false => rw [hb] at h1; cases h1
           | true =>
             rw [hb] at h1
             cases h1
             have hb' := hb
             simp only [zyy] at hb'
             have e1 := zy1 hb'.1
             have e2 := zy1 hb'.2
             subst e1 e2
             cases hv with
             | cons a n b =>
               obtain ⟨L, ch, g1, g2, g3⟩ := M.get (b := j) (by rw [hm]; simp)
               obtain ⟨L', g4, rfl⟩ := a.w_inv
               rw [g1] at g4; cases g4
               rw [hm] at g3
               obtain ⟨tk, c', M2, o2, k2, kk⟩ := zpy h2 (M.take g1 g2) b
               refine ⟨ch :: tk, c', M2.perm ?_, .e g3 o2, .cons hb k2, zdh (zes h2) kk⟩
               simp only [zzs, zzd, zz6]
               exact zz2 _ _ _
         · cases h1
       · rename_i E sz
         cases h1
         cases hv with
         | cons a n b =>
           cases a
           obtain ⟨tk, c', M2, o2, k2, kk⟩ := zpy h2 M b
           exact ⟨[] :: tk, c', M2.perm (by simp), .e (L := ⟨0, none, 0, 0, none⟩) (.w (.nil _) rfl) o2, .cons (by simp [zun]) k2, kk⟩
       · rename_i j j'
         cases hb : (zyw j j' && zzc (j + 1) lim) with
         | false => rw [hb] at h1; cases h1
         | true =>
           rw [hb] at h1
           cases h1
           simp only [zyy] at hb
           have e1 := zy1 hb.1
           have e2 := zz0 hb.2
           subst e1
           cases hv with | cons a n b => exact val rfl rfl rfl a (by simp [zae]; omega) (by simp) hb.1 b
       · rename_i j o j' o'
         cases hb : (zyw j j' && zyw o o' && zzc (j + 1) lim) with
         | false => rw [hb] at h1; cases h1
         | true =>
           rw [hb] at h1
           cases h1
           have hb' := hb
           simp only [zyy] at hb'
           have e1 := zy1 hb'.1.1
           have e3 := zy1 hb'.1.2
           have e2 := zz0 hb'.2
           subst e1 e3
           cases hv with | cons a n b => exact val rfl rfl rfl a (by simp [zae]; omega) (by simp) (by simp [zun]) b
       · rename_i j j'
         cases hb : (zyw j j' && zzc (j + 1) lim) with
         | false => rw [hb] at h1; cases h1
         | true =>
           rw [hb] at h1
           cases h1
           simp only [zyy] at hb
           have e1 := zy1 hb.1
           have e2 := zz0 hb.2
           subst e1
           cases hv with | cons a n b => exact val rfl rfl rfl a (by simp [zae]; omega) (by simp) hb.1 b
       · cases h1; cases hv with | cons a n b => exact val rfl rfl rfl a (by simp [zae]) (by simp) rfl b
       · cases h1
       · rename_i hne
         cases h1
         cases hv with
         | cons a n b => exact val rfl rfl rfl .z (by simp [zae]) (by simp) rfl b
         | n hl b => exact absurd rfl (hne _ _ _)
       · cases h1
     · cases hp
   · cases hp
def noC : AB → Bool
 | .c _ => false
 | .cw .. => false
 | _ => true
inductive OB (D : Fz) (ρ : List Loc) (lim : Nat) : List BP → List Nat → List It → List zac → Prop
 | nil : OB D ρ lim [] [] [] []
 | e {y : BP} {j : Nat} {ab : AB} {L : Loc} {ch : zac} {ps : List BP} {js : List Nat} {os : List It} {tk : List zac} : (∀ qs, y ≠ .c qs) → (ab ≠ .x → ρ[j]? = some L) → Ent D ρ L ab ch → noC ab = true → OB D ρ lim ps js os tk →
     OB D ρ lim (y :: ps) (j :: js) (.e ab :: os) (ch :: tk)
 | c {qs : List Pt} {j : Nat} {L : Loc} {S : TypeId} {arr : List Value} {o1 : List It} {t1 : List zac} {ps : List BP} {js : List Nat} {os : List It} {tk : List zac} : ρ[j]? = some L → OV D ρ lim arr o1 t1 → o1.length = qs.length → OB D ρ lim ps js os tk →
     OB D ρ lim (.c qs :: ps) (j :: js) (o1 ++ os) ([(L.b, .cells arr.toArray S (0, 0))] :: (t1 ++ tk))
theorem zp0 {lim : Nat} : ∀ {ps : List BP} {js : List Nat} {m m' : Mem} {os : List It} {chs C : List zac}, pkB lim m ps js = some (os, m') → SAt D ρ m chs C h →
 ∃ tk chs', SAt D ρ m' chs' (tk ++ C) h ∧ OB D ρ lim ps js os tk ∧ OkL (ps.flatMap BP.ps) os ∧ ∀ b, mg m' b ≠ .x → chs'[b]? = chs[b]?
 | [], [], m, m', os, chs, C, hp, M => by cases hp; exact ⟨[], chs, M, .nil, .nil, fun _ _ => rfl⟩
 | [], _ :: _, m, m', os, chs, C, hp, M => by cases hp
 | _ :: _, [], m, m', os, chs, C, hp, M => by cases hp
 | y :: ps, j :: js, m, m', os, chs, C, hp, M => by
   simp only [pkB] at hp
   split at hp
   · rename_i o m1 h1
     split at hp
     · rename_i os' m2 h2
       cases hp
       have pm : ∀ {a b c : List zac}, (a ++ (b ++ c)).flatten.Perm (b ++ (a ++ c)).flatten := fun {a b c} => by simp only [zzs]; exact zz2 _ _ _
       cases y with
       | A =>
         simp only [zwr] at h1
         split at h1
         · rename_i I hm
           cases h1
           obtain ⟨L, ch, g1, g2, g3⟩ := M.get (b := j) (by rw [hm]; simp)
           rw [hm] at g3
           obtain ⟨tk, c', M2, o2, k2, kk⟩ := zp0 h2 (M.take g1 g2)
           exact ⟨ch :: tk, c', M2.perm (pm (a := tk) (b := [ch])), .e (by simp) (fun _ => g1) g3 rfl o2, .cons rfl k2, zdh (zch h2) kk⟩
         · cases h1
       | X =>
         simp only [zwr] at h1
         cases h1
         obtain ⟨ch, M1, -⟩ := M.kill j
         obtain ⟨tk, c', M2, o2, k2, kk⟩ := zp0 h2 M1
         have M3 : SAt D ρ m' c' ([] :: tk ++ C) h := by
          refine (M2.perm (pm (a := tk) (b := [ch]))).mono (.refl D) ?_
          have S := (M2.perm (pm (a := tk) (b := [ch]))).st
          have S1 : St D (ch :: (c' ++ (tk ++ C))) h := S.unmid
          have S2 := S1.drop.nil
          exact S2.mid
         refine ⟨[] :: tk, c', M3, .e (L := ⟨0, none, 0, 0, none⟩) (by simp) (fun hl => absurd rfl hl) .x rfl o2, .cons rfl k2, zdh (zch h2) kk⟩
       | row E sz =>
         simp only [zwr] at h1
         split at h1
         · rename_i E' sz' rows hm
           cases hb : (zyw E E' && zyw sz sz') with
           | false => rw [hb] at h1; cases h1
           | true =>
             rw [hb] at h1
             cases h1
             have hb' := hb
             simp only [zyy] at hb'
             have e1 := zy1 hb'.1
             have e2 := zy1 hb'.2
             subst e1 e2
             obtain ⟨L, ch, g1, g2, g3⟩ := M.get (b := j) (by rw [hm]; simp)
             rw [hm] at g3
             obtain ⟨tk, c', M2, o2, k2, kk⟩ := zp0 h2 (M.take g1 g2)
             exact ⟨ch :: tk, c', M2.perm (pm (a := tk) (b := [ch])), .e (by simp) (fun _ => g1) g3 rfl o2, .cons hb k2, zdh (zch h2) kk⟩
         · cases h1
       | mp kt sz ag =>
         simp only [zwr] at h1
         split at h1
         · rename_i kt' sz' ag' rows hm
           cases hb : (ktEq kt kt' && zyw sz sz' && (ag == ag')) with
           | false => rw [hb] at h1; cases h1
           | true =>
             rw [hb] at h1
             cases h1
             have hb' := hb
             simp only [zyy, beq_iff_eq] at hb'
             have e1 := zfw hb'.1.1
             have e2 := zy1 hb'.1.2
             have e3 := hb'.2
             subst e1 e2 e3
             obtain ⟨L, ch, g1, g2, g3⟩ := M.get (b := j) (by rw [hm]; simp)
             rw [hm] at g3
             obtain ⟨tk, c', M2, o2, k2, kk⟩ := zp0 h2 (M.take g1 g2)
             exact ⟨ch :: tk, c', M2.perm (pm (a := tk) (b := [ch])), .e (by simp) (fun _ => g1) g3 rfl o2, .cons hb k2, zdh (zch h2) kk⟩
         · cases h1
       | c qs =>
         simp only [zwr] at h1
         split at h1
         · rename_i l hm
           obtain ⟨L, ch, g1, g2, g3⟩ := M.get (b := j) (by rw [hm]; simp)
           rw [hm] at g3
           cases g3 with
           | c hc =>
             rename_i arr S
             obtain ⟨t1, c1, M1, o1, k1, kk1⟩ := zpy h1 (M.take g1 g2) hc
             obtain ⟨tk, c', M2, o2, k2, kk⟩ := zp0 h2 M1
             refine ⟨[(L.b, .cells arr.toArray S (0, 0))] :: (t1 ++ tk), c', M2.perm ?_, .c g1 o1 (k1.len) o2, k1.app k2, zdh (fun b => by
              rcases zch h2 b with h3 | h3
              · rcases zes h1 b with h4 | h4
                · exact .inl (h3.trans h4)
                · exact .inr (h3.trans h4)
              · exact .inr h3) fun b hb => by
              have h5 : mg m1 b ≠ .x := by
               rcases zch h2 b with h3 | h3
               · rw [← h3]; exact hb
               · exact absurd h3 hb
              rw [kk b hb, kk1 b h5]⟩
             have pp : ∀ {X Y Z : zac} {b : Nat × Obj}, (X ++ (Y ++ (b :: Z))).Perm (b :: (Y ++ (X ++ Z))) := fun {X Y Z b} => by
              rw [← zy8]
              exact z1l.trans (by rw [zy8]; exact (zz2 _ _ _).cons _)
             simpa [zzs, zy8] using pp (X := tk.flatten) (Y := t1.flatten) (Z := C.flatten) (b := (L.b, .cells arr.toArray S (0, 0)))
         · cases h1
     · cases hp
   · cases hp
inductive OR (D : Fz) (ρ : List Loc) (lim : Nat) : List Value → List RP → List It → List zac → Prop
 | nil : OR D ρ lim [] [] [] []
 | one {y : Pt} {v : Value} {o1 : List It} {t1 : List zac} {vs : List Value} {rs : List RP} {os : List It} {tk : List zac} : OV D ρ lim [v] o1 t1 → o1.length = 1 → (∀ k w l, o1 ≠ [.v (.n k w l)]) → OR D ρ lim vs rs os tk → OR D ρ lim (v :: vs) (.one y :: rs) (o1 ++ os) (t1 ++ tk)
 | agg {qs : List Pt} {ws : List Value} {o1 : List It} {t1 : List zac} {vs : List Value} {rs : List RP} {os : List It} {tk : List zac} : OV D ρ lim ws o1 t1 → o1.length = qs.length → OR D ρ lim vs rs os tk → OR D ρ lim (.agg ws.toArray :: vs) (.agg qs :: rs) (o1 ++ os) (t1 ++ tk)
theorem rp_n (hv : Rp D ρ v x) : ∀ k w l, x ≠ .n k w l := by intro k w l e; subst e; cases hv
theorem pk1_n {m1 : Mem} (h1 : pk1 lim m y x = some (i, m1)) (hx : ∀ k w l, x ≠ .n k w l) : ∀ k w l, i ≠ .v (.n k w l) := by
 intro k w l e
 subst e
 unfold pk1 at h1
 split at h1 <;> first
  | exact hx _ _ _ rfl
  | (cases h1; done)
  | (revert h1; cases zyw _ _ <;> simp; done)
  | (revert h1; cases (zyw _ _ && zzc _ _) <;> simp; done)
  | (revert h1; cases (zyw _ _ && zyw _ _ && zzc _ _) <;> simp; done)
  | (split at h1 <;> first | (cases h1; done) | (revert h1; cases (zyw _ _ && zyw _ _) <;> simp; done))
theorem pkV_n {lim : Nat} : ∀ {ps : List Pt} {xs : List V} {m m' : Mem} {os : List It}, pkV lim m ps xs = some (os, m') → (∀ x ∈ xs, ∀ k w l, x ≠ .n k w l) → ∀ i ∈ os, ∀ k w l, i ≠ .v (.n k w l)
 | [], [], m, m', os, hp, hx => by cases hp; simp
 | [], _ :: _, m, m', os, hp, hx => by cases hp
 | _ :: _, [], m, m', os, hp, hx => by cases hp
 | y :: ps, x :: xs, m, m', os, hp, hx => by
   simp only [pkV] at hp
   split at hp
   · rename_i o m1 h1
     split at hp
     · rename_i os' m2 h2
       cases hp
       intro i hi
       rcases zy3.1 hi with rfl | hi
       · exact pk1_n h1 (hx x (by simp))
       · exact pkV_n h2 (fun x hx' => hx x (by simp [hx'])) i hi
     · cases hp
   · cases hp
theorem zfr {lim : Nat} : ∀ {rs : List RP} {xs : List V} {m m' : Mem} {os : List It}, pkR lim m rs xs = some (os, m') → ∀ b, mg m' b = mg m b ∨ mg m' b = .x
 | [], [], m, m', os, hp => by cases hp; exact fun b => .inl rfl
 | [], _ :: _, m, m', os, hp => by cases hp
 | .one y :: rs, [], m, m', os, hp => by cases hp
 | .agg qs :: rs, [], m, m', os, hp => by cases hp
 | .one y :: rs, x :: xs, m, m', os, hp => by
   simp only [pkR] at hp
   split at hp
   · rename_i o m1 h1
     split at hp
     · rename_i os' m2 h2
       cases hp
       intro b
       rcases zfr h2 b with h3 | h3
       · rcases zes h1 b with h4 | h4
         · exact .inl (h3.trans h4)
         · exact .inr (h3.trans h4)
       · exact .inr h3
     · cases hp
   · cases hp
 | .agg qs :: rs, x :: xs, m, m', os, hp => by
   cases x with
   | a l =>
     simp only [pkR] at hp
     split at hp
     · rename_i o m1 h1
       split at hp
       · rename_i os' m2 h2
         cases hp
         intro b
         rcases zfr h2 b with h3 | h3
         · rcases zes h1 b with h4 | h4
           · exact .inl (h3.trans h4)
           · exact .inr (h3.trans h4)
         · exact .inr h3
       · cases hp
     · cases hp
   | _ => simp [pkR] at hp
theorem pkR_S {lim : Nat} : ∀ {rs : List RP} {xs : List V} {m m' : Mem} {os : List It} {vs : List Value} {chs C : List zac}, pkR lim m rs xs = some (os, m') → SAt D ρ m chs C h → RpL D ρ vs xs →
 ∃ tk chs', SAt D ρ m' chs' (tk ++ C) h ∧ OR D ρ lim vs rs os tk ∧ OkL (rs.flatMap RP.ps) os ∧ ∀ b, mg m' b ≠ .x → chs'[b]? = chs[b]?
 | [], [], m, m', os, vs, chs, C, hp, M, hv => by cases hp; cases hv; exact ⟨[], chs, M, .nil, .nil, fun _ _ => rfl⟩
 | [], _ :: _, m, m', os, vs, chs, C, hp, M, hv => by cases hp
 | .one y :: rs, [], m, m', os, vs, chs, C, hp, M, hv => by cases hp
 | .agg qs :: rs, [], m, m', os, vs, chs, C, hp, M, hv => by cases hp
 | .one y :: rs, x :: xs, m, m', os, vs, chs, C, hp, M, hv => by
   simp only [pkR] at hp
   split at hp
   · rename_i o m1 h1
     split at hp
     · rename_i os' m2 h2
       cases hp
       cases hv with
       | cons a b =>
         obtain ⟨t1, c1, M1, o1, k1, kk1⟩ := zpy h1 M (.cons a (rp_n a) .nil)
         obtain ⟨tk, c', M2, o2, k2, kk⟩ := pkR_S h2 M1 b
         refine ⟨t1 ++ tk, c', M2.perm ?_, .one o1 k1.len (fun k w l e => pkV_n h1 (fun x hx => by rw [z0s.1 hx]; exact rp_n a) (.v (.n k w l)) (by rw [e]; simp) _ _ _ rfl) o2, k1.app k2, fun b hb => by
          have h5 : mg m1 b ≠ .x := by
           rcases zfr h2 b with h3 | h3
           · rw [← h3]; exact hb
           · exact absurd h3 hb
          rw [kk b hb, kk1 b h5]⟩
         simp only [zzs, zy8]
         exact zz2 _ _ _
     · cases hp
   · cases hp
 | .agg qs :: rs, x :: xs, m, m', os, vs, chs, C, hp, M, hv => by
   cases x with
   | a l =>
     simp only [pkR] at hp
     split at hp
     · rename_i o m1 h1
       split at hp
       · rename_i os' m2 h2
         cases hp
         cases hv with
         | cons a b =>
           obtain ⟨ws, rfl, hc⟩ := a.a_inv
           obtain ⟨t1, c1, M1, o1, k1, kk1⟩ := zpy h1 M hc
           obtain ⟨tk, c', M2, o2, k2, kk⟩ := pkR_S h2 M1 b
           refine ⟨t1 ++ tk, c', M2.perm ?_, .agg o1 k1.len o2, k1.app k2, fun b hb => by
           have h5 : mg m1 b ≠ .x := by
            rcases zfr h2 b with h3 | h3
            · rw [← h3]; exact hb
            · exact absurd h3 hb
           rw [kk b hb, kk1 b h5]⟩
           simp only [zzs, zy8]
           exact zz2 _ _ _
       · cases hp
     · cases hp
   | _ => simp [pkR] at hp
def Ren (f : Nat → Nat) (lim : Nat) (ρ ρ' : List Loc) : Prop := ∀ b, b < lim → ∀ L, ρ[b]? = some L → ρ'[f b]? = some L
theorem Ren.app {f : Nat → Nat} (r : Ren f lim ρ ρ') (s : List Loc) : Ren f lim ρ (ρ' ++ s) := fun b hb L hL => zai (r b hb L hL)
section
variable {f : Nat → Nat}
theorem ren_all : (∀ {v : Value} {x : V}, Rp D ρ v x → (∀ b ∈ zae x, ∀ L, ρ[b]? = some L → ρ'[f b]? = some L) → Rp D ρ' v (zci f x)) ∧ (∀ {v : List Value} {x : List V}, RpL D ρ v x → (∀ b ∈ zag x, ∀ L, ρ[b]? = some L → ρ'[f b]? = some L) → RpL D ρ' v (zd0 f x)) ∧
 (∀ {v : List Value} {x : List V}, RpC D ρ v x → (∀ b ∈ zag x, ∀ L, ρ[b]? = some L → ρ'[f b]? = some L) → RpC D ρ' v (zd0 f x)) := by
 have key := @Rp.rec D ρ (fun v x _ => (∀ b ∈ zae x, ∀ L, ρ[b]? = some L → ρ'[f b]? = some L) → Rp D ρ' v (zci f x)) (fun vs xs _ => (∀ b ∈ zag xs, ∀ L, ρ[b]? = some L → ρ'[f b]? = some L) → RpL D ρ' vs (zd0 f xs))
  (fun vs xs _ => (∀ b ∈ zag xs, ∀ L, ρ[b]? = some L → ρ'[f b]? = some L) → RpC D ρ' vs (zd0 f xs))
 have keyL := @RpL.rec D ρ (fun v x _ => (∀ b ∈ zae x, ∀ L, ρ[b]? = some L → ρ'[f b]? = some L) → Rp D ρ' v (zci f x)) (fun vs xs _ => (∀ b ∈ zag xs, ∀ L, ρ[b]? = some L → ρ'[f b]? = some L) → RpL D ρ' vs (zd0 f xs))
  (fun vs xs _ => (∀ b ∈ zag xs, ∀ L, ρ[b]? = some L → ρ'[f b]? = some L) → RpC D ρ' vs (zd0 f xs))
 have keyC := @RpC.rec D ρ (fun v x _ => (∀ b ∈ zae x, ∀ L, ρ[b]? = some L → ρ'[f b]? = some L) → Rp D ρ' v (zci f x)) (fun vs xs _ => (∀ b ∈ zag xs, ∀ L, ρ[b]? = some L → ρ'[f b]? = some L) → RpL D ρ' vs (zd0 f xs))
  (fun vs xs _ => (∀ b ∈ zag xs, ∀ L, ρ[b]? = some L → ρ'[f b]? = some L) → RpC D ρ' vs (zd0 f xs))
 have A1 : ∀ {v : Value} {x : U} (a : Rd D v x), (∀ b ∈ zae (.u x), ∀ L, ρ[b]? = some L → ρ'[f b]? = some L) → Rp D ρ' v (zci f (.u x)) := fun h _ => .u h
 have A2 : ∀ {b o : Nat} {L : Loc} (a : ρ[b]? = some L), (∀ c ∈ zae (.r b o), ∀ L, ρ[c]? = some L → ρ'[f c]? = some L) → Rp D ρ' (.pointer (some ⟨L.b, o, none⟩)) (zci f (.r b o)) := fun h g => .r (g _ (by simp [zae]) _ h)
 have A3 : ∀ {b sz o p q : Nat} {k : Int} {L : Loc} (a : ρ[b]? = some L) (a1 : L.a = some ⟨p, q, none⟩) (a2 : 0 ≤ k) (a3 : k < L.n), (∀ c ∈ zae (.e b sz k o), ∀ L, ρ[c]? = some L → ρ'[f c]? = some L) → Rp D ρ' (.pointer (some ⟨p, q + k.toNat * sz + o, none⟩)) (zci f (.e b sz k o)) :=
  fun h1 h2 h3 h4 g => .e (g _ (by simp [zae]) _ h1) h2 h3 h4
 have A4 : ∀ {b o w : Nat} {k : Int} {L : Loc} (a : ρ[b]? = some L) (a1 : 0 ≤ k) (a2 : k < w), (∀ c ∈ zae (.g b o w k), ∀ L, ρ[c]? = some L → ρ'[f c]? = some L) → Rp D ρ' (.pointer (some ⟨L.b, o + k.toNat, none⟩)) (zci f (.g b o w k)) :=
  fun h1 h2 h3 g => .g (g _ (by simp [zae]) _ h1) h2 h3
 have A5 : ∀ {c : List U} {p o o' : Nat} (a : Rd D (.pointer (some ⟨p, o, none⟩)) (.p (some c))) (a1 : o' = o) (n : Nat), (∀ b ∈ zae (.q c n), ∀ L, ρ[b]? = some L → ρ'[f b]? = some L) → Rp D ρ' (.pointer (some ⟨p, o' + n, none⟩)) (zci f (.q c n)) := fun h1 h2 n _ => .q h1 h2 n
 have A6 : ∀ {b : Nat} {L : Loc} (a : ρ[b]? = some L), (∀ c ∈ zae (.w b), ∀ L, ρ[c]? = some L → ρ'[f c]? = some L) → Rp D ρ' (.slice L.a L.n L.c) (zci f (.w b)) := fun h g => .w (g _ (by simp [zae]) _ h)
 have A7 : ∀ {a : Option Addr} {n sz : Nat} {rows : List (List U)} (a1 : Rd D (.slice a n n) (.l sz rows)), (∀ b ∈ zae (.c sz rows), ∀ L, ρ[b]? = some L → ρ'[f b]? = some L) → Rp D ρ' (.slice a n n) (zci f (.c sz rows)) := fun h _ => .c h
 have A8 : ∀ {b : Nat} {L : Loc} (a : ρ[b]? = some L), (∀ c ∈ zae (.m b), ∀ L, ρ[c]? = some L → ρ'[f c]? = some L) → Rp D ρ' (.map (some L.b)) (zci f (.m b)) := fun h g => .m (g _ (by simp [zae]) _ h)
 have A9 : ∀ {b : Nat} {L : Loc} (a : ρ[b]? = some L), (∀ c ∈ zae (.y b), ∀ L, ρ[c]? = some L → ρ'[f c]? = some L) → Rp D ρ' (.func (.yield L.b) #[] #[]) (zci f (.y b)) := fun h g => .y (g _ (by simp [zae]) _ h)
 have A10 : ∀ {b sz l n cap : Nat} {c : Bool} {a : Option Addr} {L : Loc} (a1 : ρ[b]? = some L) (a2 : l + n ≤ L.n) (a3 : l = 0 → a = L.a) (a4 : 0 < n → ∃ p q, L.a = some ⟨p, q, none⟩ ∧ a = some ⟨p, q + l * sz, none⟩) (a5 : n ≤ cap) (a6 : c = true → cap = n) (a7 : c = false → l = 0 → cap = L.c),
  (∀ d ∈ zae (.v b sz l n c), ∀ L, ρ[d]? = some L → ρ'[f d]? = some L) → Rp D ρ' (.slice a n cap) (zci f (.v b sz l n c)) := fun h1 h2 h3 h4 h5 h6 h7 g => .v (g _ (by simp [zae]) _ h1) h2 h3 h4 h5 h6 h7
 have A11 : ∀ {b o n cap : Nat} {a : Option Addr} {L : Loc} (a1 : ρ[b]? = some L) (a2 : 0 < n → a = some ⟨L.b, o, none⟩) (a3 : n ≤ cap), (∀ d ∈ zae (.sl b o n), ∀ L, ρ[d]? = some L → ρ'[f d]? = some L) → Rp D ρ' (.slice a n cap) (zci f (.sl b o n)) :=
  fun h1 h2 h3 g => .sl (g _ (by simp [zae]) _ h1) h2 h3
 have B1 : ∀ {g : FuncId} {xs ys : List Value} {a c : List V} (a1 : RpL D ρ xs a) (a2 : RpL D ρ ys c), ((∀ b ∈ zag a, ∀ L, ρ[b]? = some L → ρ'[f b]? = some L) → RpL D ρ' xs (zd0 f a)) → ((∀ b ∈ zag c, ∀ L, ρ[b]? = some L → ρ'[f b]? = some L) → RpL D ρ' ys (zd0 f c)) →
  (∀ b ∈ zae (.f g a c), ∀ L, ρ[b]? = some L → ρ'[f b]? = some L) → Rp D ρ' (.func (.func g) xs.toArray ys.toArray) (zci f (.f g a c)) := fun _ _ i1 i2 g => .f (i1 fun b hb => g b (by simp [zae, hb])) (i2 fun b hb => g b (by simp [zae, hb]))
 have B2 : ∀ {vs : List Value} {l : List V} (a : RpC D ρ vs l), ((∀ b ∈ zag l, ∀ L, ρ[b]? = some L → ρ'[f b]? = some L) → RpC D ρ' vs (zd0 f l)) → (∀ b ∈ zae (.a l), ∀ L, ρ[b]? = some L → ρ'[f b]? = some L) → Rp D ρ' (.agg vs.toArray) (zci f (.a l)) := fun _ i g => .a (i g)
 have B3 : ∀ {vs : List Value} {l : List V} (a : RpL D ρ vs l), ((∀ b ∈ zag l, ∀ L, ρ[b]? = some L → ρ'[f b]? = some L) → RpL D ρ' vs (zd0 f l)) → (∀ b ∈ zae (.t l), ∀ L, ρ[b]? = some L → ρ'[f b]? = some L) → Rp D ρ' (.tuple vs.toArray) (zci f (.t l)) := fun _ i g => .t (i g)
 have C1 : ∀ {v : Value} {x : V} {vs : List Value} {xs : List V} (a : Rp D ρ v x) (a1 : RpL D ρ vs xs), ((∀ b ∈ zae x, ∀ L, ρ[b]? = some L → ρ'[f b]? = some L) → Rp D ρ' v (zci f x)) → ((∀ b ∈ zag xs, ∀ L, ρ[b]? = some L → ρ'[f b]? = some L) → RpL D ρ' vs (zd0 f xs)) →
  (∀ b ∈ zag (x :: xs), ∀ L, ρ[b]? = some L → ρ'[f b]? = some L) → RpL D ρ' (v :: vs) (zd0 f (x :: xs)) := fun _ _ i1 i2 g => .cons (i1 fun b hb => g b (by simp [zag, hb])) (i2 fun b hb => g b (by simp [zag, hb]))
 have C2 : ∀ {v : Value} {x : V} {vs : List Value} {xs : List V} (a : Rp D ρ v x) (a0 : ∀ k w l, x ≠ .n k w l) (a1 : RpC D ρ vs xs), ((∀ b ∈ zae x, ∀ L, ρ[b]? = some L → ρ'[f b]? = some L) → Rp D ρ' v (zci f x)) → ((∀ b ∈ zag xs, ∀ L, ρ[b]? = some L → ρ'[f b]? = some L) → RpC D ρ' vs (zd0 f xs)) →
  (∀ b ∈ zag (x :: xs), ∀ L, ρ[b]? = some L → ρ'[f b]? = some L) → RpC D ρ' (v :: vs) (zd0 f (x :: xs)) := fun a hn _ i1 i2 g => .cons (i1 fun b hb => g b (by simp [zag, hb])) (rp_n (i1 fun b hb => g b (by simp [zag, hb]))) (i2 fun b hb => g b (by simp [zag, hb]))
 have C3 : ∀ {k : IntKind} {w : Nat} {l : List Int} {vs : List Value} {xs : List V} (a : l.length = w) (a1 : RpC D ρ vs xs), ((∀ b ∈ zag xs, ∀ L, ρ[b]? = some L → ρ'[f b]? = some L) → RpC D ρ' vs (zd0 f xs)) → (∀ b ∈ zag (.n k w l :: xs), ∀ L, ρ[b]? = some L → ρ'[f b]? = some L) →
  RpC D ρ' (l.map (.int k) ++ vs) (zd0 f (.n k w l :: xs)) := fun hl _ i g => .n hl (i fun b hb => g b (by simp [zag, hb]))
 exact ⟨fun hr => key A1 A2 A3 A4 A5 A6 A7 A8 (fun _ => .nm) (fun _ => .nl) B1 B2 B3 (fun _ => .z) A9 A10 A11 (fun _ => .nil) C1 (fun _ => .nil) C2 C3 hr,
  fun hr => keyL A1 A2 A3 A4 A5 A6 A7 A8 (fun _ => .nm) (fun _ => .nl) B1 B2 B3 (fun _ => .z) A9 A10 A11 (fun _ => .nil) C1 (fun _ => .nil) C2 C3 hr,
  fun hr => keyC A1 A2 A3 A4 A5 A6 A7 A8 (fun _ => .nm) (fun _ => .nl) B1 B2 B3 (fun _ => .z) A9 A10 A11 (fun _ => .nil) C1 (fun _ => .nil) C2 C3 hr⟩
end
theorem zkn {lim : Nat} {f : Nat → Nat} : ∀ {n : Nat} {vs : List Value} {o1 r : List It} {t1 : List zac} {mt : Mem} {ρt : List Loc} {ct C : List zac}, OV D ρ lim vs o1 t1 → o1.length = n → SAt D ρt mt ct (t1 ++ C) h → Ren f lim ρ ρt →
 ∃ s ms cs, (ze8 f mt n (o1 ++ r)).2.1 = r ∧ (ze8 f mt n (o1 ++ r)).2.2 = mt ++ ms ∧ SAt D (ρt ++ s) (mt ++ ms) (ct ++ cs) C h ∧ RpC D (ρt ++ s) vs (ze8 f mt n (o1 ++ r)).1
 | 0, vs, o1, r, t1, mt, ρt, ct, C, ho, hn, M, R => by
   cases ho <;> simp at hn
   exact ⟨[], [], [], rfl, by simp [ze8], by simpa using M, by simp [ze8]; exact .nil⟩
 | n + 1, vs, o1, r, t1, mt, ρt, ct, C, ho, hn, M, R => by
   cases ho with
   | nil => simp at hn
   | v hv hl hnn ho =>
     obtain ⟨s, ms, cs, e1, e2, M1, r1⟩ := zkn (r := r) ho (by simpa using hn) M R
     have hv2 := (ren_all.1 hv fun b hb L hL => R b (hl b hb) L hL).mono (.refl D) s
     refine ⟨s, ms, cs, ?_, ?_, M1, ?_⟩
     · simpa [ze8, itV] using e1
     · simpa [ze8, itV] using e2
     · simp only [ze8, itV, zz6]; exact .cons hv2 (rp_n hv2) r1
   | n hw ho =>
     obtain ⟨s, ms, cs, e1, e2, M1, r1⟩ := zkn (r := r) ho (by simpa using hn) M R
     refine ⟨s, ms, cs, ?_, ?_, M1, ?_⟩
     · simpa [ze8, itV] using e1
     · simpa [ze8, itV] using e2
     · simp only [ze8, itV, zz6]; exact .n hw r1
   | e he ho =>
     rename_i L E sz rows ch vs' os' tk'
     have M0 : SAt D (ρt ++ [L]) (mt ++ [.w E sz rows]) (ct ++ [ch]) (tk' ++ C) h := by
      have M' : SAt D ρt mt ct (ch :: (tk' ++ C)) h := M
      exact M'.push (by cases he with | w a b => exact .w a b)
     obtain ⟨s, ms, cs, e1, e2, M1, r1⟩ := zkn (r := r) ho (by simpa using hn) M0 (R.app _)
     refine ⟨L :: s, .w E sz rows :: ms, ch :: cs, ?_, ?_, by simpa using M1, ?_⟩
     · simpa [ze8, itV] using e1
     · have := e2; simp only [zy8, List.singleton_append] at this; simpa [ze8, itV] using this
     · simp only [ze8, itV, zz6]
       refine .cons (.w ?_) (by simp) (by simpa using r1)
       rw [← M.len]; simp
theorem RpC.one {y : V} (hr : RpC D ρ vs [y]) (hy : ∀ k w l, y ≠ .n k w l) : ∃ v, vs = [v] ∧ Rp D ρ v y := by
 cases hr with
 | cons a n b => cases b; exact ⟨_, rfl, a⟩
 | n => exact absurd rfl (hy _ _ _)
theorem reR_S {lim : Nat} {f : Nat → Nat} : ∀ {rs : List RP} {vs : List Value} {o1 r : List It} {t1 : List zac} {mt : Mem} {ρt : List Loc} {ct C : List zac}, OR D ρ lim vs rs o1 t1 → SAt D ρt mt ct (t1 ++ C) h → Ren f lim ρ ρt →
 ∃ s ms cs, (reR f mt rs (o1 ++ r)).2.1 = r ∧ (reR f mt rs (o1 ++ r)).2.2 = mt ++ ms ∧ SAt D (ρt ++ s) (mt ++ ms) (ct ++ cs) C h ∧ RpL D (ρt ++ s) vs (reR f mt rs (o1 ++ r)).1
 | [], vs, o1, r, t1, mt, ρt, ct, C, ho, M, R => by
   cases ho
   exact ⟨[], [], [], rfl, by simp [reR], by simpa using M, by simp [reR]; exact .nil⟩
 | .one y :: rs, vs, o1, r, t1, mt, ρt, ct, C, ho, M, R => by
   cases ho with
   | one ov hl hnn ho =>
     rename_i v o1 t1 vs os tk
     rw [zy8] at M
     obtain ⟨s, ms, cs, e1, e2, M1, r1⟩ := zkn (r := os ++ r) ov hl M R
     obtain ⟨s2, ms2, cs2, e3, e4, M2, r2⟩ := reR_S (r := r) ho M1 (R.app s)
     refine ⟨s ++ s2, ms ++ ms2, cs ++ cs2, ?_, ?_, by simpa using M2, ?_⟩
     · simp only [reR, zy8, e1, e2, e3]
     · simp only [reR, zy8, e1, e2, e4]
     · simp only [reR, zy8, e1, e2]
       have h1 := r1.mono (.refl D) s2
       obtain ⟨i, rfl⟩ := z20.1 hl
       have hy : ∀ k w l, (itV f mt i).1 ≠ .n k w l := by
        intro k w l
        cases i with
        | e ab => simp [itV]
        | v x => cases x <;> simp [itV, zci]; exact fun _ _ _ => hnn _ _ _ rfl
       obtain ⟨v', hv, hr⟩ := RpC.one (y := (itV f mt i).1) h1 hy
       cases hv
       rw [zy8] at hr r2
       exact .cons hr r2
 | .agg qs :: rs, vs, o1, r, t1, mt, ρt, ct, C, ho, M, R => by
   cases ho with
   | agg ov hl ho =>
     rename_i ws o1 t1 vs os tk
     rw [zy8] at M
     obtain ⟨s, ms, cs, e1, e2, M1, r1⟩ := zkn (r := os ++ r) ov hl M R
     obtain ⟨s2, ms2, cs2, e3, e4, M2, r2⟩ := reR_S (r := r) ho M1 (R.app s)
     refine ⟨s ++ s2, ms ++ ms2, cs ++ cs2, ?_, ?_, by simpa using M2, ?_⟩
     · simp only [reR, zy8, e1, e2, e3]
     · simp only [reR, zy8, e1, e2, e4]
     · simp only [reR, zy8, e1, e2]
       have h1 := r1.mono (.refl D) s2
       rw [zy8] at h1 r2
       exact .cons (.a h1) r2
end
section
variable {P : Program} {D D' : Fz} {ρ ρ' : List Loc} {m m' : Mem} {chs C : List zac} {h h' : zaf} {T : List Value} {t : List V} {ro hr : List Nat}
theorem Ent.any (he : Ent D ρ L ab ch) (hn : noC ab = true) : Ent D ρ' L ab ch := by
 cases he with
 | c => cases hn
 | cw => cases hn
 | w a b => exact .w a b
 | o a => exact .o a
 | p a b c => exact .p a b c
 | tk a => exact .tk a
 | x => exact .x
theorem SAt.over (M : SAt D ρ m chs (ch :: C) h) (hb : b < m.length) (hL : ρ[b]? = some L) (he : Ent D ρ L ab ch) : SAt D ρ (ms m b ab) (chs.set b ch) C h := by
 have hlt : b < chs.length := by rw [M.lch]; exact hb
 have hc : chs[b]? = some chs[b] := zy0 hlt
 refine M.put (C' := C) hL hc ?_ (.refl D) he
 have S1 := (M.front hc).drop
 rw [z02 hlt] at S1 ⊢
 exact S1.unmid
theorem reB_S {lim : Nat} {f : Nat → Nat} : ∀ {ps : List BP} {js bs : List Nat} {os : List It} {tk : List zac} {mt : Mem} {ρt : List Loc} {ct C : List zac}, OB D ρ lim ps js os tk → SAt D ρt mt ct (tk ++ C) h → Ren f lim ρ ρt → bs.length = ps.length →
 (∀ (i j b : Nat), js[i]? = some j → bs[i]? = some b → b < mt.length ∧ ∀ L, ρ[j]? = some L → ρt[b]? = some L) →
 ∃ s c2, SAt D (ρt ++ s) (reB f mt ps bs os) c2 C h ∧ mt.length ≤ (reB f mt ps bs os).length ∧ ∀ b, b < mt.length → b ∉ bs → mg (reB f mt ps bs os) b = mg mt b ∧ c2[b]? = ct[b]?
 | [], js, bs, os, tk, mt, ρt, ct, C, ho, M, R, hl, hj => by
   cases ho
   have : bs = [] := z0p hl
   subst this
   exact ⟨[], ct, by simpa [reB] using M, zy9 _, fun b _ _ => ⟨rfl, rfl⟩⟩
 | y :: ps, js, [], os, tk, mt, ρt, ct, C, ho, M, R, hl, hj => by simp at hl
 | y :: ps, js, b :: bs, os, tk, mt, ρt, ct, C, ho, M, R, hl, hj => by
   cases ho with
   | e hy hL he hn ho =>
     rename_i j ab L ch js os tk
     obtain ⟨hb, hjb⟩ := hj 0 j b rfl rfl
     have hbρ : b < ρt.length := by rw [M.len]; exact hb
     have M1 : SAt D ρt (ms mt b ab) (ct.set b ch) (tk ++ C) h := by
      by_cases hx : ab = .x
      · subst hx
        have : ch = [] := by cases he; rfl
        subst this
        exact SAt.over (C := tk ++ C) M hb (zy0 hbρ) .x
      · exact SAt.over (C := tk ++ C) M hb (hjb L (hL hx)) (he.any hn)
     obtain ⟨s, c2, M2, g1, g2⟩ := reB_S (f := f) ho M1 R (by simpa using hl) (fun i j' b' h1 h2 => by
      have := hj (i + 1) j' b' (by simpa using h1) (by simpa using h2)
      rw [zbz]; exact this)
     have e : reB f mt (y :: ps) (b :: bs) (.e ab :: os) = reB f (ms mt b ab) ps bs os := by
      cases y <;> first | rfl | exact absurd rfl (hy _)
     rw [e]
     rw [zbz] at g1 g2
     refine ⟨s, c2, M2, g1, fun b' h1 h2 => ?_⟩
     simp only [zy3, not_or] at h2
     obtain ⟨g3, g4⟩ := g2 b' h1 h2.2
     rw [g3, g4, zbe (Ne.symm h2.1), zzp (Ne.symm h2.1)]
     exact ⟨rfl, rfl⟩
   | c hL ov hl1 ho =>
     rename_i qs j L S arr o1 t1 js os tk
     obtain ⟨hb, hjb⟩ := hj 0 j b rfl rfl
     have Mp : SAt D ρt mt ct (t1 ++ ([(L.b, .cells arr.toArray S (0, 0))] :: (tk ++ C))) h := M.perm (by
      simp only [zzs, zzd, zz6, zz7, zy8]
      exact z1l.symm)
     obtain ⟨s, ns, cs, e1, e2, M1, r1⟩ := zkn (r := os) ov hl1 Mp R
     have hb2 : b < (mt ++ ns).length := by simp; omega
     have M2 := M1.over (ab := .c (ze8 f mt qs.length (o1 ++ os)).1) hb2 (zai (hjb L hL)) (.c r1)
     obtain ⟨s2, c2, M3, g1, g2⟩ := reB_S (f := f) ho M2 (R.app s) (by simpa using hl) (fun i j' b' h1 h2 => by
      obtain ⟨h3, h4⟩ := hj (i + 1) j' b' (by simpa using h1) (by simpa using h2)
      rw [zbz]
      exact ⟨by simp; omega, fun L hL => zai (h4 L hL)⟩)
     have e : reB f mt (.c qs :: ps) (b :: bs) (o1 ++ os) = reB f (ms (mt ++ ns) b (.c (ze8 f mt qs.length (o1 ++ os)).1)) ps bs os := by
      simp only [reB, e1, e2]
     rw [e]
     rw [zbz] at g1 g2
     refine ⟨s ++ s2, c2, by simpa using M3, by simp at g1; omega, fun b' h1 h2 => ?_⟩
     simp only [zy3, not_or] at h2
     obtain ⟨g3, g4⟩ := g2 b' (by simp; omega) h2.2
     rw [g3, g4, zbe (Ne.symm h2.1), zzp (Ne.symm h2.1), zki h1, zy7 (by rw [M.lch]; exact h1)]
     exact ⟨rfl, rfl⟩
theorem zsn : ∀ {xs ys : List V} {vs : List Value} {m m' : Mem} {D : Fz} {chs : List zac}, frzV.frzC (hr ++ ro) m xs = some (ys, m') → SAt D ρ m chs C h → RpC D ρ vs xs →
 ∃ D' chs', Nx ro hr D ρ m chs D' ρ m' chs' ∧ SAt D' ρ m' chs' C h ∧ RpC D' ρ vs ys
 | [], ys, vs, m, m', D, chs, hs, M, hv => by simp only [frzV.frzC, Option.some.injEq, Prod.mk.injEq] at hs; obtain ⟨rfl, rfl⟩ := hs; exact ⟨D, chs, .refl, M, hv⟩
 | x :: xs, ys, vs, m, m', D, chs, hs, M, hv => by
   have other : ∀ {l' : List V} {m2 : Mem}, frzV.frzC (hr ++ ro) m xs = some (l', m2) → ys = x :: l' → m' = m2 → ∃ D' chs', Nx ro hr D ρ m chs D' ρ m' chs' ∧ SAt D' ρ m' chs' C h ∧ RpC D' ρ vs ys := by
    intro l' m2 h1 e1 e2
    subst e1 e2
    cases hv with
    | cons a n b =>
      obtain ⟨D', c', n1, M1, r1⟩ := zsn h1 M b
      exact ⟨D', c', n1, M1, .cons (n1.rp a) n r1⟩
    | n hl b =>
      obtain ⟨D', c', n1, M1, r1⟩ := zsn h1 M b
      exact ⟨D', c', n1, M1, .n hl r1⟩
   unfold frzV.frzC at hs
   split at hs
   · rename_i heq; cases heq
   · rename_i b l heq
     cases heq
     split at hs
     · rename_i u m1 hu
       split at hs
       · rename_i l' m2 h2
         cases hs
         cases hv with
         | cons a n b =>
           obtain ⟨D1, c1, n1, M1, r1⟩ := toU_S hu M a
           obtain ⟨D2, c2, n2, M2, r2⟩ := zsn h2 M1 (n1.rpC b)
           exact ⟨D2, c2, n1.trans n2, M2, .cons (.u (r1.mono n2.le)) (by simp) r2⟩
       · cases hs
     · cases hs
   · rename_i v l hne heq
     cases heq
     split at hs
     · rename_i l' m2 h2
       cases hs
       exact other h2 rfl rfl
     · cases hs
theorem frzV_S {y : V} (hs : frzV (hr ++ ro) m x = some (y, m')) (M : SAt D ρ m chs C h) (hv : Rp D ρ v x) :
 ∃ D' chs', Nx ro hr D ρ m chs D' ρ m' chs' ∧ SAt D' ρ m' chs' C h ∧ Rp D' ρ v y := by
 unfold frzV at hs
 split at hs
 · split at hs
   · rename_i u m1 hu
     cases hs
     obtain ⟨D1, c1, n1, M1, r1⟩ := toU_S hu M hv
     exact ⟨D1, c1, n1, M1, .u r1⟩
   · cases hs
 · split at hs
   · rename_i l' m1 hl
     cases hs
     obtain ⟨vs, rfl, hc⟩ := hv.a_inv
     obtain ⟨D1, c1, n1, M1, r1⟩ := zsn hl M hc
     exact ⟨D1, c1, n1, M1, .a r1⟩
   · cases hs
 · cases hs
   exact ⟨D, chs, .refl, M, hv⟩
theorem zol : ∀ {xs ys : List V} {vs : List Value} {m m' : Mem} {D : Fz} {chs : List zac}, frzL (hr ++ ro) m xs = some (ys, m') → SAt D ρ m chs C h → RpL D ρ vs xs →
 ∃ D' chs', Nx ro hr D ρ m chs D' ρ m' chs' ∧ SAt D' ρ m' chs' C h ∧ RpL D' ρ vs ys
 | [], ys, vs, m, m', D, chs, hs, M, hv => by simp only [frzL, Option.some.injEq, Prod.mk.injEq] at hs; obtain ⟨rfl, rfl⟩ := hs; exact ⟨D, chs, .refl, M, hv⟩
 | x :: xs, ys, vs, m, m', D, chs, hs, M, hv => by
   simp only [frzL] at hs
   split at hs
   · rename_i y m1 h1
     split at hs
     · rename_i l' m2 h2
       cases hs
       cases hv with
       | cons a b =>
         obtain ⟨D1, c1, n1, M1, r1⟩ := frzV_S h1 M a
         obtain ⟨D2, c2, n2, M2, r2⟩ := zol h2 M1 (n1.rpL b)
         exact ⟨D2, c2, n1.trans n2, M2, .cons (n2.rp r1) r2⟩
     · cases hs
   · cases hs
theorem zlr : ∀ {Ts : List TypeId} {xs : List V} {vs : List Value}, RpL D ρ vs xs → RpL D ρ vs (ztn P Ts xs)
 | [], xs, vs, hv => hv
 | _ :: _, [], vs, hv => hv
 | S :: Ts, x :: xs, vs, hv => by cases hv with | cons a b => exact .cons (datV_S (zea a)) (zlr b)
theorem zcv {m : Mem} : ∀ (n : Nat) (todo acc : List Nat), acc.Nodup → (clo m n todo acc).Nodup
 | 0, _, acc, h => h
 | _ + 1, [], acc, h => h
 | n + 1, b :: todo, acc, h => by
   simp only [clo]
   cases hb : inL acc b with
   | true => exact zcv n _ _ h
   | false =>
     refine zcv n _ _ ?_
     rw [z01]
     refine ⟨h, by simp, fun x hx y hy e => ?_⟩
     subst e
     rw [z0s.1 hy] at hx
     rw [inL_iff.2 hx] at hb
     cases hb
theorem SAt.takes : ∀ {ix : List Nat} {m : Mem} {chs C : List zac}, SAt D ρ m chs C h → ix.Nodup → (∀ b ∈ ix, b < m.length) →
 ∃ c', SAt D ρ (zcq m ix) c' ((ix.map fun b => (chs[b]?).getD []) ++ C) h ∧ (∀ b, b ∉ ix → c'[b]? = chs[b]? ∧ mg (zcq m ix) b = mg m b)
 | [], m, chs, C, M, hn, hb => ⟨chs, M, fun _ _ => ⟨rfl, rfl⟩⟩
 | b :: ix, m, chs, C, M, hn, hb => by
   have hb0 := hb b (by simp)
   have hr : b < ρ.length := by rw [M.len]; exact hb0
   have hc : b < chs.length := by rw [M.lch]; exact hb0
   have M1 := M.take (zy0 hr) (zy0 hc)
   rw [z0q] at hn
   obtain ⟨c', M2, g⟩ := SAt.takes M1 hn.2 (fun b' h' => by rw [zbz]; exact hb b' (by simp [h']))
   refine ⟨c', M2.perm ?_, fun b' hb' => ?_⟩
   · have e : (ix.map fun b' => ((chs.set b [])[b']?).getD []) = ix.map fun b' => (chs[b']?).getD [] := by
      refine List.map_congr_left fun b' hb' => ?_
      rw [zzp]
      rintro rfl; exact hn.1 hb'
     rw [e]
     simp only [zzj, zzs, zzd, zz6, zy0 hc, zz8]
     exact zz2 _ _ _
   · simp only [zy3, not_or] at hb'
     obtain ⟨g1, g2⟩ := g b' hb'.2
     simp only [zcq]
     rw [g1, g2, zzp (Ne.symm hb'.1), zbe (Ne.symm hb'.1)]
     exact ⟨rfl, rfl⟩
theorem zfx : ∀ (ix : List Nat) (m : Mem), (zcq m ix).length = m.length
 | [], _ => rfl
 | b :: ix, m => by simp only [zcq]; rw [zfx ix, zbz]
theorem za0 {ix : List Nat} : ∀ {l : List Nat}, zdy ix l = true → ∀ b ∈ l, b ∈ ix
 | [], _ => by simp
 | x :: l, h => by
   simp only [zdy, zyy] at h
   intro b hb
   rcases zy3.1 hb with rfl | hb
   · exact inL_iff.1 h.1
   · exact za0 h.2 b hb
theorem zbx {n : Nat} : ∀ {l : List Nat}, zff n l = true → ∀ b ∈ l, b < n
 | [], _ => by simp
 | x :: l, h => by
   simp only [zff, zyy] at h
   intro b hb
   rcases zy3.1 hb with rfl | hb
   · exact zz0 h.1
   · exact zbx h.2 b hb
theorem zma {hr : List Nat} : ∀ {l : List Nat}, disj hr l = true → ∀ b ∈ l, b ∉ hr
 | [], _ => by simp
 | x :: l, h => by
   simp only [disj, zyy, zzt] at h
   intro b hb
   rcases zy3.1 hb with rfl | hb
   · exact fun hm => by rw [inL_iff.2 hm] at h; cases h.1
   · exact zma h.2 b hb
theorem zer : ∀ {ix : List Nat} {b k : Nat}, b ∈ ix → ∃ i, zjs ix b k = k + i ∧ ix[i]? = some b
 | x :: ix, b, k, hb => by
   simp only [zjs]
   cases hx : zyw x b with
   | true => have := zy1 hx; subst this; exact ⟨0, rfl, rfl⟩
   | false =>
     rcases zy3.1 hb with rfl | hb
     · simp at hx
     · obtain ⟨i, h1, h2⟩ := zer (k := k + 1) hb
       exact ⟨i + 1, by rw [cond_false, h1]; omega, by simpa using h2⟩
theorem zlp : ∀ {ix : List Nat} {i b : Nat}, ix[i]? = some b → ztm ix i = b
 | [], _, _, h => by simp at h
 | _ :: _, 0, _, h => by simpa [ztm] using h
 | _ :: ix, i + 1, b, h => by simp only [ztm]; exact zlp (by simpa using h)
theorem Ent.ren {f : Nat → Nat} (he : Ent D ρ L ab ch) (hf : ∀ b ∈ za9 ab, ∀ L, ρ[b]? = some L → ρ'[f b]? = some L) : Ent D ρ' L (zo2 f ab) ch := by
 cases he with
 | c hc => exact .c (ren_all.2.2 hc hf)
 | w a b => exact .w a b
 | o a => exact .o a
 | p a b c => exact .p a b c
 | tk a => exact .tk a
 | x => exact .x
 | cw a b hc d e f => exact .cw a b (ren_all.2.2 hc hf) d e f
theorem SAt.sub2 (M : SAt D ρ m chs C h) (hn : ix.Nodup) (hb : ∀ b ∈ ix, b < m.length) (hcl : ∀ b ∈ ix, ∀ c ∈ za9 (mg m b), c ∈ ix) : ∃ c' cs, cs = (ix.map fun b => (chs[b]?).getD []) ∧ SAt D ρ (zcq m ix) c' (cs ++ C) h ∧ (∀ b, b ∉ ix → c'[b]? = chs[b]? ∧ mg (zcq m ix) b = mg m b) ∧
 SAt D (ix.map fun b => (ρ[b]?).getD ⟨0, none, 0, 0, none⟩) (zk6 m ix) cs (c' ++ C) h := by
 obtain ⟨c', M1, g⟩ := M.takes hn hb
 refine ⟨c', _, rfl, M1, g, by simp [zk6], by simp [zk6], ?_, ?_⟩
 · intro i L ab ch h1 h2 h3
   simp only [zk6, zy5] at h1 h2 h3
   obtain ⟨b, hib, rfl⟩ := z0e.1 h2
   rw [hib] at h1 h3
   simp only [z0g, Option.some.injEq] at h1 h3
   have hbm := zy4 hib
   have hlt := hb b hbm
   have hr : b < ρ.length := by rw [M.len]; exact hlt
   have hc : b < chs.length := by rw [M.lch]; exact hlt
   rw [zy0 hr, zz8] at h1
   rw [zy0 hc, zz8] at h3
   subst h1 h3
   refine (M.ent b _ _ _ (zy0 hr) (znz hlt) (zy0 hc)).ren fun c hcr L hL => ?_
   obtain ⟨k, h4, h5⟩ := zer (k := 0) (hcl b hbm c hcr)
   rw [h4, zze, zy5, h5, z0g, hL]; rfl
 · refine M1.st.perm ?_
   simp only [zzs]
   exact zz2 _ _ _
theorem SAt.sub (M : SAt D ρ m chs C h) (hn : ix.Nodup) (hb : ∀ b ∈ ix, b < m.length) (hcl : ∀ b ∈ ix, ∀ c ∈ za9 (mg m b), c ∈ ix) : ∃ c' cs, SAt D ρ (zcq m ix) c' (cs ++ C) h ∧ (∀ b, b ∉ ix → c'[b]? = chs[b]? ∧ mg (zcq m ix) b = mg m b) ∧
 SAt D (ix.map fun b => (ρ[b]?).getD ⟨0, none, 0, 0, none⟩) (zk6 m ix) cs (c' ++ C) h :=
 let ⟨c', cs, _, h1, h2, h3⟩ := M.sub2 hn hb hcl; ⟨c', cs, h1, h2, h3⟩
end
section
variable {P : Program} {D D' : Fz} {ρ ρ' : List Loc} {m m' : Mem} {chs C : List zac} {h h' : zaf} {T : List Value} {t : List V} {ro hr : List Nat}
theorem St.sublist (S : St D C h) (hs : C'.flatten.Sublist C.flatten) : St D C' h where
 nd := (hs.map (fun p : Nat × Obj => p.1)).nodup S.nd
 own p hp := S.own p (hs.subset hp)
 fz b o hb := ⟨(S.fz b o hb).1, fun hm => (S.fz b o hb).2 ((hs.map (fun p : Nat × Obj => p.1)).subset hm)⟩
theorem St.drops {A B : List zac} (S : St D (A ++ B) h) : St D B h := S.sublist (by rw [zzs]; exact List.sublist_append_right _ _)
theorem zpz {lim : Nat} : ∀ {rs : List RP} {xs : List V} {m m' : Mem} {os : List It}, pkR lim m rs xs = some (os, m') → rs.length = xs.length
 | [], [], _, _, _, _ => rfl
 | [], _ :: _, _, _, _, h => by cases h
 | .one _ :: _, [], _, _, _, h => by cases h
 | .agg _ :: _, [], _, _, _, h => by cases h
 | .one y :: rs, x :: xs, m, m', os, h => by
   simp only [pkR] at h
   split at h
   · split at h
     · rename_i h2; simp [zpz h2]
     · cases h
   · cases h
 | .agg qs :: rs, x :: xs, m, m', os, h => by
   cases x with
   | a l =>
     simp only [pkR] at h
     split at h
     · split at h
       · rename_i h2; simp [zpz h2]
       · cases h
     · cases h
   | _ => simp [pkR] at h
theorem zia : ∀ {ix : List Nat} {K : Prop}, roEq ro m m' ix K → K ∧ ∀ b ∈ ix, inL ro b = true → mg m' b = mg m b
 | [], K, h => ⟨h, by simp⟩
 | b :: ix, K, h => by
   simp only [roEq] at h
   cases hb : inL ro b with
   | true =>
     rw [hb] at h
     obtain ⟨h1, h2⟩ := zia h.2
     refine ⟨h1, fun c hc hr => ?_⟩
     rcases zy3.1 hc with rfl | hc
     · exact h.1
     · exact h2 c hc hr
   | false =>
     rw [hb] at h
     obtain ⟨h1, h2⟩ := zia h
     refine ⟨h1, fun c hc hr => ?_⟩
     rcases zy3.1 hc with rfl | hc
     · rw [hb] at hr; cases hr
     · exact h2 c hc hr
theorem datA_S (he : Ent D ρ L ab ch) : Ent D ρ L (datA ab) ch := by
 cases he with
 | c h => exact .c (zsv h)
 | w a b => exact .w a b
 | o a => exact .o a
 | p a b c => exact .p a b c
 | tk a => exact .tk a
 | x => exact .x
 | cw a b c d e f => exact .cw a b c d e f
theorem zsu : ∀ {m : Mem} {i : Nat}, (zx4 m)[i]? = (m[i]?).map datA
 | [], i => by simp [zx4]
 | a :: m, 0 => by simp [zx4]
 | a :: m, i + 1 => by simp only [zx4, z2c]; exact zsu
theorem zmb : ∀ {m : Mem}, (zx4 m).length = m.length
 | [] => rfl
 | a :: m => by simp [zx4, zmb (m := m)]
theorem SAt.dat (M : SAt D ρ m chs C h) : SAt D ρ (zx4 m) chs C h where
 len := by rw [zmb]; exact M.len
 lch := by rw [zmb]; exact M.lch
 ent i L ab ch h1 h2 h3 := by
  rw [zsu] at h2
  obtain ⟨a, h4, rfl⟩ := z0e.1 h2
  exact datA_S (M.ent i L a ch h1 h4 h3)
 st := M.st
theorem callQ_S {kn : KN P} {a : List V} {Q : V → Mem → Prop} (h : callQ P kn g m a Q) : PRun P g m a Q := by
 unfold callQ at h
 split at h
 · rename_i r hr
   intro D ρ chs C hp vs M ha
   exact (kn.ok g m a r hr D ρ chs C hp vs M ha).mono fun v h' ⟨D', ρ', c', x, m', l, M', hv, hx⟩ => ⟨D', ρ', c', x, m', l, M', hv, by rw [hx.1, hx.2]; exact h⟩
 · exact h
theorem zyb {kn : KN P} {rs : List RP} {bs : List BP} {as' : List V} {m1 : Mem} {c1 : List zac} {D1 : Fz} (hs : callT P kn ro hr g ix rs bs as' m1 KS) (hnd : ix.Nodup) (n1 : Nx ro hr D ρ m chs D1 ρ m1 c1) (M1 : SAt D1 ρ m1 c1 C h) (ra : RpL D1 ρ vs as') :
 Run P g vs h (zcx ro hr D ρ m chs C KS) := by
 unfold callT at hs
 · obtain ⟨hcc, hrun⟩ := zaa hs
   simp only [zyy] at hcc
   obtain ⟨⟨⟨⟨q1, q2⟩, q3⟩, q4⟩, q5⟩ := hcc
   have q1 := zma q1
   have q2 := zbx q2
   have q3 := za0 q3
   have q4 := za0 q4
   have q5 := zy1 q5
   obtain ⟨c', cs, Mk, gk, Ms⟩ := M1.sub hnd q2 fun b hb c hc => q4 c (z1m.2 ⟨b, hb, hc⟩)
   have sub : ∀ {b i : Nat} {L : Loc}, ix[i]? = some b → ρ[b]? = some L → (ix.map fun b => (ρ[b]?).getD ⟨0, none, 0, 0, none⟩)[i]? = some L := fun h1 h2 => by rw [zy5, h1, z0g, h2]; rfl
   have ra' := (ren_all (D := D1) (ρ := ρ) (f := fun b => zjs ix b 0) (ρ' := ix.map fun b => (ρ[b]?).getD ⟨0, none, 0, 0, none⟩)).2.1 ra fun b hb L hL => by
    obtain ⟨k, h4, h5⟩ := zer (k := 0) (q3 b hb)
    rw [h4, zze]
    exact sub h5 hL
   refine ((callQ_S hrun) D1 _ cs (c' ++ C) h vs Ms.dat ra').mono ?_
   rintro v h' ⟨D2, ρ2, cs2, x, m', le, Ms2, hv, hq⟩
   unfold post at hq
   split at hq
   · rename_i os mm1 hR
     split at hq
     · rename_i os2 mm2 hB
       -- the results as values
       have hxs : ∃ VS, RpL D2 ((ix.map fun b => (ρ[b]?).getD ⟨0, none, 0, 0, none⟩) ++ ρ2) VS (resX rs x) ∧
        ∀ {D3 : Fz} {ρ3 : List Loc} {ys : List V}, RpL D3 ρ3 VS ys → Rp D3 ρ3 v (oneR rs ys) := by
        have hlen := zpz hR
        by_cases hone : ∃ r, rs = [r]
        · obtain ⟨r, rfl⟩ := hone
          refine ⟨[v], .cons hv .nil, fun hy => ?_⟩
          cases hy with | cons a b => cases b; exact a
        · have e1 : ∀ ys, oneR rs ys = .t ys := fun ys => by
           unfold oneR
           split
           · exact absurd ⟨_, rfl⟩ hone
           · rfl
          cases x with
          | t l =>
            have e2 : resX rs (.t l) = l := by
             unfold resX
             split
             · exact absurd ⟨_, rfl⟩ hone
             · rename_i h1; cases h1; rfl
             · rename_i h1; exact absurd rfl (h1 _)
            obtain ⟨VS, rfl, hl⟩ := hv.t_inv
            exact ⟨VS, by rw [e2]; exact hl, fun hy => by rw [e1]; exact .t hy⟩
          | _ =>
            exfalso
            have : rs.length = 1 := by
             rw [hlen]
             unfold resX
             split <;> first | rfl | (rename_i h1; cases h1)
            exact hone (z20.1 this)
       obtain ⟨VS, hVS, hres⟩ := hxs
       obtain ⟨tk1, c3, M3, o1, k1, -⟩ := pkR_S hR Ms2 hVS
       obtain ⟨tk2, c4, M4, o2, k2, -⟩ := zp0 hB M3
       rw [zyn (k1.app k2)] at hq
       -- back to the caller
       have S5 : St D2 (c' ++ (tk1 ++ (tk2 ++ C))) h' := (M4.st.drops).perm (by
        simp only [zzs]
        have p1 : ∀ (A B E F : zac), (A ++ (B ++ (E ++ F))).Perm (E ++ (B ++ (A ++ F))) := fun A B E F => by
         refine (zz2 A B _).trans ?_
         refine ((zz2 A E F).append_left B).trans ?_
         exact zz2 B E _
        exact p1 _ _ _ _)
       have M5 : SAt D2 ρ (zcq m1 ix) c' (tk1 ++ (tk2 ++ C)) h' := Mk.mono le S5
       have hR1 : Ren (ztm ix) bs.length ((ix.map fun b => (ρ[b]?).getD ⟨0, none, 0, 0, none⟩) ++ ρ2) ρ := fun b hb L hL => by
        have hb' : b < ix.length := by omega
        rw [zy7 (by simpa using hb'), zy5, zy0 hb', z0g] at hL
        have hlt : ix[b] < ρ.length := by rw [M1.len]; exact q2 _ (z2t hb')
        rw [zy0 hlt] at hL
        rw [zlp (zy0 hb'), zy0 hlt]
        exact hL
       obtain ⟨s, ns, cn, e1, e2, M6, r6⟩ := reR_S (r := os2) o1 M5 hR1
       rw [← e1] at o2
       have hlk := zfx ix m1
       obtain ⟨s2, c7, M7, g1, g2⟩ := reB_S (bs := ix) o2 M6 (hR1.app s) (by rw [q5]) (fun i j b hj hb => by
        have hj' : j = i ∧ i < bs.length := by
         have := zyz.1 hj
         obtain ⟨h1, h2⟩ := this
         simp at h1 h2
         exact ⟨h2.symm, h1⟩
        obtain ⟨rfl, hi⟩ := hj'
        have hbm := q2 b (zy4 hb)
        refine ⟨by rw [zzl, hlk]; omega, fun L hL => ?_⟩
        have := (hR1.app s) j hi L hL
        rwa [zlp hb] at this)
       rw [e2] at hq
       obtain ⟨hK, hro⟩ := zia hq
       refine ⟨D2, ρ ++ (s ++ s2), _, c7, _, ⟨n1.le.trans le, ⟨_, rfl⟩, fun b hb hlt => ?_, fun b hb hlt => ?_, ?_⟩, by rw [← zy8]; exact M7, hres (by rw [← zy8]; exact r6.mono (.refl _) s2), hK⟩
       · have hlt1 : b < m1.length := z2b hlt n1.len
         have hni : b ∉ ix := fun hi => q1 b hi (inL_iff.1 hb)
         rw [(g2 b (by rw [zzl, hlk]; omega) hni).2, zy7 (by rw [Mk.lch, hlk]; exact hlt1), (gk b hni).1, n1.keep b hb hlt]
       · have hlt1 : b < m1.length := z2b hlt n1.len
         by_cases hi : b ∈ ix
         · have hbr : inL ro b = true := by
            rw [inL_iff] at hb ⊢
            exact (zy6.1 hb).resolve_left (q1 b hi)
           rw [hro b hi hbr, n1.same b hb hlt]
         · rw [(g2 b (by rw [zzl, hlk]; omega) hi).1, zki (by rw [hlk]; exact hlt1), (gk b hi).2, n1.same b hb hlt]
       · have := n1.len
         rw [zzl, hlk] at g1
         omega
     · exact hq.elim
   · exact hq.elim
theorem callS_S {H : SH P} {fn : Func} {args : List V} (hs : callS P H ro hr fn g args m KS) (M : SAt D ρ m chs C h) (ha : RpL D ρ vs args) : Run P g vs h (zcx ro hr D ρ m chs C KS) := by
 unfold callS at hs
 split at hs
 · exact hs.elim
 · rename_i as' m1 hfz
   have ha := zlr (P := P) (Ts := fn.params.toList) ha
   have frz : ∃ D1 c1, Nx ro hr D ρ m chs D1 ρ m1 c1 ∧ SAt D1 ρ m1 c1 C h ∧ RpL D1 ρ vs as' := by
    cases hw : inL H.ow g with
    | true =>
      rw [hw] at hfz
      simp only [cond_true, Option.some.injEq, Prod.mk.injEq] at hfz
      obtain ⟨rfl, rfl⟩ := hfz
      exact ⟨D, chs, .refl, M, ha⟩
    | false =>
      rw [hw] at hfz
      exact zol hfz M ha
   obtain ⟨D1, c1, n1, M1, ra⟩ := frz
   have hnd := zcv (m := m1) 1000 (zag as') [] (by simp)
   split at hs
   · exact zyb hs hnd n1 M1 ra
   · exact zyb hs hnd n1 M1 ra
end
end Go.Proofs.YtacglpinmpncaaaGreat
