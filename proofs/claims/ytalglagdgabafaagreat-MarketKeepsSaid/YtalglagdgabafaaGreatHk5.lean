/- Lists of numbers that are owned: the least one; the first one with something; in the style of heaps. -/
import Derived.Test.YtalglagdgabafaaGreatHk4
import Derived.Test.YtalglagdgabafaaGreatProg
set_option linter.unusedVariables false
namespace Go.Proofs.YtalglagdgabafaaGreat
open _root_.BitVec renaming toNat_ofInt → z6d
open _root_.Bool renaming and_eq_true → z17, true_and → z4l
open _root_.Int renaming eq_ofNat_of_zero_le → z4e, fdiv_eq_ediv_of_nonneg → z6l, le_refl → z2v, mul_ediv_add_emod → z6z, mul_le_mul_of_nonneg_right → z5h, mul_nonneg → z6n, natCast_add → z5g, natCast_emod → z5v, natCast_mul → z42, natCast_nonneg → z4a, ofNat_lt → z5e, one_mul → z6e, sub_mul → z5w, tdiv_eq_ediv_of_nonneg → z6c, toNat → z16, toNat_natCast → z27
open _root_.Go.IntKind renaming wrap → z13, wrap_u64 → z4f
open _root_.List renaming all_eq_true → z29, append_assoc → z2m, append_nil → z3a, drop_drop → z4x, drop_eq_getElem_cons → z4w, eq_nil_of_length_eq_zero → z3w, ext_getElem? → z4o, flatten_append → z21, flatten_cons → z2n, flatten_nil → z6a, getD_eq_getElem?_getD → z4g, getElem?_append_left → z2k, getElem?_append_right → z2t, getElem?_eq_getElem → z2c, getElem?_eq_none → z3u, getElem?_eq_none_iff → z61, getElem?_eq_some_iff → z2a, getElem?_map → z2i, getElem?_range → z5s, getElem?_set_ne → z23, getElem?_set_self → z3x, getElem?_take → z37, getElem_map → z4p, length → z15, length_append → z2z, length_cons → z2o, length_eq_zero_iff → z6o, length_map → z2d, length_set → z3d, length_take → z33, map → z26, map_append → z28, map_cons → z2s, map_set → z43, map_take → z5b, mem_append → z2f, mem_cons → z2e, mem_cons_of_mem → z2j, mem_cons_self → z2p, mem_iff_getElem? → z3t, mem_map → z20, mem_of_getElem? → z2y, mem_range → z35, mem_singleton → z3v, mem_singleton_self → z2x, nodup_append → z4u, nodup_cons → z4d, pairwise_iff_getElem → z5q, perm_append_comm → z5a, range → z2b, set → z2q, take_append_drop → z4c, take_length → z4r, take_of_length_le → z5d, take_succ_eq_append_getElem → z6m
open _root_.Nat renaming add_mul → z3i, add_zero → z4b, beq → z14, ble → z19, div_div_eq_div_mul → z60, le_refl → z2r, lt_or_ge → z3z, mod_eq_of_lt → z57, mul_le_mul_right → z3e, pow_add → z41, succ_mul → z24, two_pow_pos → z6f, zero_add → z2l, zero_le → z3j
open _root_.Option renaming getD_some → z3b, isSome_iff_exists → z6b, map_eq_some_iff → z3k, map_some → z3h
abbrev Res := Ex × Fr × Mem
abbrev zyf := List Res
abbrev zx4 := Nat → List Nat → List Nat → Code → Fr → Mem → Option zyf
inductive YE where
 | out
 | rd
 | it (b : Nat) (f : List Nat → List Nat → List V → Mem → Option Out)
def YE.sub : YE → YE
 | .it b f => .it b f
 | _ => .out
def YE.h (Y : YE) (ro hr : List Nat) (b : Nat) (args : List V) (m : Mem) : Option Out :=
 match Y with
 | .it b' f => cond (z14 b b') (f ro hr args m) none
 | _ => none
def YE.Ok : YE → YC → Prop
 | .out, .out => True
 | .rd, .rd => True
 | .it b f, .it b' f' => b = b' ∧ ∀ {ro hr : List Nat} {args : List V} {m : Mem} {rs : Out} {K : V → Mem → Prop}, f ro hr args m = some rs → (∀ r ∈ rs, K r.1 r.2) → f' ro hr args m K
 | _, _ => False
theorem YE.Ok.sub {Y : YE} {Z : YC} (h : Y.Ok Z) : Y.sub.Ok Z.sub := by
 cases Y <;> cases Z <;> first | exact h.elim | trivial | exact h
theorem YE.Ok.yh {Y : YE} {Z : YC} (h : Y.Ok Z) {ro hr : List Nat} : YhOk (Y.h ro hr) (Z.h ro hr) := by
 intro b args m rs K h1 hK
 cases Y <;> cases Z <;> first | exact h.elim | (cases h1; done) | skip
 obtain ⟨rfl, hf⟩ := h
 simp only [YE.h] at h1
 simp only [YC.h]
 obtain ⟨h2, h3⟩ := zai h1
 rw [h2]
 exact hf h3 hK
abbrev zsk := YE → zx4
noncomputable def z0r (P : Program) (Ts : List TypeId) (vs : List V) : List V :=
 List.rec (motive := fun _ => List V → List V) (fun l => l) (fun T _ ih l => List.casesOn (motive := fun _ => List V) l [] (fun v r => zcn P T v :: ih r)) Ts vs
theorem zhb (P : Program) : ∀ (Ts : List TypeId) (vs : List V), z0r P Ts vs = zdv P true Ts vs
 | [], vs => by simp only [zdv]; rfl
 | T :: Ts, [] => by simp only [zdv]; rfl
 | T :: Ts, v :: vs => by simp only [zdv, cond_true]; rw [← zhb P Ts vs]; rfl
theorem zq6 (P : Program) : ∀ (Ts : List TypeId) (vs : List V), (zdv P true Ts vs).length = vs.length
 | [], vs => by simp only [zdv]
 | T :: Ts, [] => by simp only [zdv]
 | T :: Ts, v :: vs => by simp only [zdv, z2o, zq6 P Ts vs]
noncomputable def zns (P : Program) (fn : Func) (args : List V) : Fr := Fr.mk (z0r P fn.params.toList args) (Nat.sub fn.ntmps (zc8 args)) (Nat.add (zc8 args) (Nat.sub fn.ntmps (zc8 args)))
theorem zvz (P : Program) (fn : Func) (args : List V) : (zns P fn args).l = zd2 P true fn args := by
 unfold zns zd2
 rw [mk_l (by rw [zhb, zq6, za3]; rfl), zhb, za3]; rfl
noncomputable def zgm (P : Program) (fn : Func) (args : List V) : Fr := Fr.of (z1q P fn args)
noncomputable def zta (P : Program) : List ResultVar → Fr → Mem → Option (List V)
 | [], _, _ => some []
 | .tmp i :: l, t, m => match zta P l t m with
   | some vs => some ((acc i).g t :: vs)
   | none => none
 | .cell i T :: l, t, m => match zm4 P T ((acc i).g t) m, zta P l t m with
   | some v, some vs => some (v :: vs)
   | _, _ => none
theorem zjf {P : Program} : ∀ {l : List ResultVar} {t : Fr} {m : Mem} {vs : List V} {K : List V → Prop}, zta P l t m = some vs → K vs → resL P l t.l m K
 | [], t, m, vs, K, h, hK => by cases h; exact hK
 | .tmp i :: l, t, m, vs, K, h, hK => by
   simp only [zta] at h
   split at h
   · rename_i vs' hv
     cases h
     rw [acc_g] at hK
     exact zjf (K := fun vs => K (zc7 t.l i :: vs)) hv hK
   · cases h
 | .cell i T :: l, t, m, vs, K, h, hK => by
   simp only [zta] at h
   split at h
   · rename_i v vs' h1 h2
     cases h
     rw [acc_g] at h1
     exact zqk (K := fun v => resL P l t.l m fun vs => K (v :: vs)) h1 (zjf (K := fun vs => K (v :: vs)) h2 hK)
   · cases h
noncomputable def retF (P : Program) (fn : Func) (r : Res) : Option (V × Mem) :=
 match r.1 with
 | .ext _ => none
 | _ => match zta P fn.results.toList r.2.1 r.2.2 with
   | some vs => some (oneV (z0r P fn.resultTypes.toList vs), r.2.2)
   | none => none
theorem zzq {P : Program} {fn : Func} {r : Res} {x : V × Mem} {K : V → Mem → Prop} (h : retF P fn r = some x) (hK : K x.1 x.2) : zx9 P true fn K r.1 r.2.1.l r.2.2 := by
 obtain ⟨e, t, m⟩ := r
 unfold retF at h
 unfold zx9
 cases e <;> dsimp only at h ⊢
 case ext i => cases h
 all_goals
  split at h
  · rename_i vs hv
    cases h
    rw [zhb] at hK
    exact zjf (K := fun vs => K (oneV (zdv P true fn.resultTypes.toList vs)) m) hv hK
  · cases h
noncomputable def gcVF (n : Nat) (r : V × Mem) : Option (V × Mem) :=
 cond (z19 (zc8 r.2) (Nat.succ n)) (some r) (match zsb n [r.1] r.2 with
  | some (t, m2) => some (zeu .z t 0, m2)
  | none => none)
theorem z1n {n : Nat} {r x : V × Mem} {K : V → Mem → Prop} (h : gcVF n r = some x) (hK : K x.1 x.2 ∨ K (wkV x.1) x.2) : gcQ (some n) K r.1 r.2 := by
 unfold gcVF at h
 unfold gcQ
 dsimp only
 cases hb : z19 (zc8 r.2) (Nat.succ n) with
 | true =>
   rw [hb] at h
   cases h
   unfold zdh
   rw [za3] at hb
   have hb' : z19 r.2.length (n + 1) = true := hb
   simp only [hb', cond_true]
   exact hK
 | false =>
   rw [hb] at h
   simp only [cond_false] at h
   split at h
   · rename_i t m2 hc
     cases h
     rw [zdt] at hK
     exact zsa hc hK
   · cases h
def zzb (x : V × Mem) (l : Out) : Bool := l.all fun y => smV x.1 y.1 && eqM x.2 y.2
theorem zuz {x : V × Mem} {l : Out} (h : zzb x l = true) : ∀ y ∈ l, y = x := fun y hy => by
 have := z29.1 h y hy
 simp only [z17] at this
 exact Prod.ext (smV_ok _ _ this.1).symm (z1y this.2).symm
def wkR (x : V × Mem) : V × Mem := (wkV x.1, x.2)
def z02 (l : Out) : Out :=
 match l with
 | [] => []
 | [x] => [x]
 | x :: r => cond (zzb x r) [x] (cond (zzb (wkR x) (r.map wkR)) [wkR x] (x :: r))
theorem z01 {l : Out} {K : V → Mem → Prop} (hK : ∀ x ∈ z02 l, K x.1 x.2) : ∀ x ∈ l, K x.1 x.2 ∨ K (wkV x.1) x.2 := by
 intro x hx
 match l, hK, hx with
 | [], _, hx => cases hx
 | [y], hK, hx => exact .inl (hK x hx)
 | y :: z :: r, hK, hx =>
   simp only [z02] at hK
   cases h1 : zzb y (z :: r) with
   | true =>
     rw [h1] at hK
     have e : x = y := by
      rcases z2e.1 hx with h | h
      · exact h
      · exact zuz h1 x h
     rw [e]
     exact .inl (hK y (by simp))
   | false =>
     rw [h1] at hK
     simp only [cond_false] at hK
     cases h2 : zzb (wkR y) ((z :: r).map wkR) with
     | true =>
       rw [h2] at hK
       have e : wkR x = wkR y := by
        rcases z2e.1 hx with h | h
        · rw [h]
        · exact zuz h2 _ (z20.2 ⟨x, h, rfl⟩)
       have := hK (wkR y) (by simp)
       rw [← e] at this
       exact .inr this
     | false => rw [h2] at hK; exact .inl (hK x hx)
structure SPE (P : Program) where
 sp : SP P
 e : List Nat → zd7 → FuncId → List V → Mem → Option (Option Out)
 ok : ∀ {ro : List Nat} {callE : zd7} {call : zb2}, zfq callE call → ∀ {g : FuncId} {args : List V} {m : Mem} {rs : Out} {K : V → Mem → Prop}, e ro callE g args m = some (some rs) → (∀ r ∈ rs, K r.1 r.2) → ∃ p, sp.f ro call g args m K = some p ∧ p
 no : ∀ {ro : List Nat} {callE : zd7} {call : zb2} {g : FuncId} {args : List V} {m : Mem} {K : V → Mem → Prop}, e ro callE g args m = none → sp.f ro call g args m K = none
noncomputable def zwm (P : Program) (inl : List Nat) (self : zx4) (ro hr : List Nat) : zd7 := fun g args m =>
 match P.funcs[g]? with
 | none => none
 | some fn => cond (inL inl g)
  (match fn.body with
   | none => none
   | some c => cond (fn.name == "runtime.NumGoroutine") none (match zes (self g ro hr c (zns P fn args) m) fun r => match retF P fn r with
     | some x => zw6 (gcVF (zc8 m) x)
     | none => none with
     | some l => some (z02 l)
     | none => none))
  none
noncomputable def callF (P : Program) (E : SPE P) (inl : List Nat) (self : zx4) (ro hr : List Nat) : zd7 := fun g args m =>
 match E.e (hr ++ ro) (zwm P inl self ro hr) g args m with
 | some r => r
 | none => zwm P inl self ro hr g args m
def HE {P : Program} (E : SPE P) (inl : List Nat) (n : Nat) : SH P := ⟨[], [], inl, [], [], false, n, KN.no, true, E.sp⟩
def zpx (selfE : zx4) (self : zx3) : Prop := ∀ {fi : Nat} {ro hr : List Nat} {c : Code} {t : Fr} {m : Mem} {rs : zyf} {Q : zet}, selfE fi ro hr c t m = some rs → (∀ r ∈ rs, Q r.1 r.2.1.l r.2.2) → self fi ro hr c Q t.l m
theorem zsd {P : Program} {E : SPE P} {inl : List Nat} {n : Nat} {selfE : zx4} {self : zx3} (hs : zpx selfE self) {ro hr : List Nat} : zfq (zwm P inl selfE ro hr) (zi4 P (HE E inl n) self ro hr) := by
 intro g args m rs K h hK
 unfold zwm at h
 unfold zi4
 split at h
 · cases h
 · rename_i fn hf
   rw [hf]
   dsimp only
   obtain ⟨h1, h2⟩ := zai h
   have h1' : inL (HE E inl n).inl g = true := h1
   rw [h1']
   simp only [cond_true]
   split at h2
   · cases h2
   · rename_i c hc
     obtain ⟨h3, h4⟩ := zms h2
     rw [hc]
     dsimp only
     rw [h3]
     simp only [cond_false]
     split at h4
     · rename_i l hl
       cases h4
       obtain ⟨l1, h5, h6⟩ := za6 hl
       have ef : zd2 P (HE E inl n).gc fn args = (zns P fn args).l := (zvz P fn args).symm
       rw [ef]
       refine hs h5 fun r hr => ?_
       obtain ⟨a, h7, h8⟩ := h6 r hr
       split at h7
       · rename_i x hx
         obtain ⟨y, h9, rfl⟩ := zha h7
         rw [za3] at h9
         exact zzq hx (z1n h9 (z01 hK y (h8 y (by simp))))
       · cases h7
     · cases h4
theorem zwl {P : Program} {E : SPE P} {inl : List Nat} {n : Nat} {selfE : zx4} {self : zx3} (hs : zpx selfE self) {ro hr : List Nat} : zfq (callF P E inl selfE ro hr) (zt8 P (HE E inl n) self ro hr) := by
 intro g args m rs K h hK
 unfold callF at h
 unfold zt8
 split at h
 · rename_i r hr1
   subst h
   obtain ⟨p, h1, h2⟩ := E.ok (zsd (E := E) (n := n) (selfE := selfE) (self := self) hs) hr1 hK
   have h1' : (HE E inl n).sp.f (hr ++ ro) (zi4 P (HE E inl n) self ro hr) g args m K = some p := h1
   rw [h1']; exact h2
 · rename_i hr1
   have h1' : (HE E inl n).sp.f (hr ++ ro) (zi4 P (HE E inl n) self ro hr) g args m K = none := E.no hr1
   rw [h1']
   exact zsd (E := E) (n := n) (selfE := selfE) (self := self) hs h hK
noncomputable def rndsF (n0 : Nat) (step : Fr → Mem → Option zyf) (n : Nat) (t : Fr) (m : Mem) : Option zyf :=
 Nat.rec (motive := fun _ => Fr → Mem → Option zyf) (fun _ _ => none)
  (fun _ ih t m => zes (step t m) fun r => match r.1 with
   | .nrm => (match zr9 n0 r.2.1 r.2.2 with
     | some (t2, m2) => ih t2 m2
     | none => none)
   | _ => some [r]) n t m
theorem zu3 {n0 : Nat} {stepE : Fr → Mem → Option zyf} {step : zet → List V → Mem → Prop} (hs : ∀ {t : Fr} {m rs} {Q : zet}, stepE t m = some rs → (∀ r ∈ rs, Q r.1 r.2.1.l r.2.2) → step Q t.l m) {Q : zet} :
 ∀ {n : Nat} {t : Fr} {m : Mem} {rs : zyf}, rndsF n0 stepE n t m = some rs → (∀ r ∈ rs, Q r.1 r.2.1.l r.2.2) → rnds (some n0) step Q n t.l m
 | 0, t, m, rs, h, _ => by cases h
 | n + 1, t, m, rs, h, hQ => by
   have h : zes (stepE t m) (fun r => match r.1 with
    | .nrm => (match zr9 n0 r.2.1 r.2.2 with
      | some (t2, m2) => rndsF n0 stepE n t2 m2
      | none => none)
    | _ => some [r]) = some rs := h
   obtain ⟨l, h1, h2⟩ := za6 h
   unfold rnds
   refine hs h1 fun r hr => ?_
   obtain ⟨a, h3, h4⟩ := h2 r hr
   obtain ⟨e, t', m'⟩ := r
   cases e with
   | nrm =>
     dsimp only at h3
     split at h3
     · rename_i t2 m2 hc
       exact zr8 (K := rnds (some n0) step Q n) hc (zu3 hs h3 fun x hx => hQ x (h4 x hx))
     · cases h3
   | ext i =>
     cases h3
     have := hQ (.ext i, t', m') (h4 _ (by simp))
     exact this
   | ret =>
     cases h3
     have := hQ (.ret, t', m') (h4 _ (by simp))
     exact this
noncomputable def setAF (t : Fr) (ps : List Tmp) (args : List V) : Fr :=
 List.rec (motive := fun _ => Fr → List V → Fr) (fun t _ => t) (fun p _ ih t l => List.casesOn (motive := fun _ => Fr) l t (fun v r => ih ((acc p).s t v) r)) ps t args
theorem zza : ∀ (ps : List Tmp) (t : Fr) (args : List V), (setAF t ps args).l = setA t.l ps args
 | [], t, args => by cases args <;> rfl
 | p :: ps, t, [] => rfl
 | p :: ps, t, v :: vs => by
   show (setAF ((acc p).s t v) ps vs).l = setA (zjs t.l p v) ps vs
   rw [zza ps, acc_s]
structure CF where
 r : zsk → YE → List Nat → List Nat → Fr → Mem → Option zyf
def nrmR (l : zh1) : zyf := l.map fun x => (.nrm, x.1, x.2)
noncomputable def zcd (P : Program) (E : SPE P) (inl : List Nat) (nl : Nat) : Code → CF
 | .skip => ⟨fun _ _ _ _ t m => some [(.nrm, t, m)]⟩
 | .region _ ops d => cond (ops.toList.all fun o => !zbf o)
  (cond d (cond (zhr ops.toList ops.toList.length [] && Region.noSelect ops.toList.toArray)
   ⟨fun self Y hr ro t m => match (zx0 P ops.toList ops.toList.length []).r ro hr (callF P E inl (self Y.sub) ro) [] t m with
    | some outs => match agreeF (zc8 m) outs with
      | some l => some (nrmR l)
      | none => none
    | none => none⟩ ⟨fun _ _ _ _ _ _ => none⟩)
   ⟨fun self Y hr ro t m => match (cOps P ops.toList ops.toList).r (ze4 hr ro) (callF P E inl (self Y.sub) ro hr) (Y.h ro hr) t m with
    | some l => some (nrmR l)
    | none => none⟩) ⟨fun _ _ _ _ _ _ => none⟩
 | .seq x y => ⟨fun self Y hr ro t m => zes ((zcd P E inl nl x).r self Y hr ro t m) fun r => match r.1 with
  | .nrm => (zcd P E inl nl y).r self Y hr ro r.2.1 r.2.2
  | _ => some [r]⟩
 | .cond c x y => ⟨fun self Y hr ro t m => match (zfm c).e t with
  | .u (.b b) => cond b ((zcd P E inl nl x).r self Y hr ro t m) ((zcd P E inl nl y).r self Y hr ro t m)
  | _ => none⟩
 | .block id c => ⟨fun self Y hr ro t m => zes ((zcd P E inl nl c).r self Y hr ro t m) fun r => match r.1 with
  | .ext j => some [(cond (z14 j id) .nrm (.ext j), r.2.1, r.2.2)]
  | _ => some [r]⟩
 | .loop c => ⟨fun self Y hr ro t m => rndsF (zc8 m) (fun t m => (zcd P E inl nl c).r self Y hr ro t m) nl t m⟩
 | .exit id => ⟨fun _ _ _ _ t m => some [(.ext id, t, m)]⟩
 | .ret => ⟨fun _ _ _ _ t m => some [(.ret, t, m)]⟩
 | .scope c => zcd P E inl nl c
 | .label _ => ⟨fun _ _ _ _ t m => some [(.nrm, t, m)]⟩
 | .rangeFunc g ps assign body => ⟨fun self Y hr ro t m => match Y with
   | .out => (match (zfm g).e t with
     | .f gi as' cs => match P.funcs[gi]? with
       | none => none
       | some fn => match fn.body with
         | none => none
         | some c => cond (fn.name == "runtime.NumGoroutine" || !noEx body) none (
           zes (self (.it (zc8 m) fun ro' hr' args m1 => match zeu .x m1 (zc8 m) with
            | .tk => cond (z14 args.length ps.size) (zes ((zcd P E inl nl assign).r self .rd hr' ro' (setAF t ps.toList args) (zma m1 (zc8 m) .x)) fun r2 => match r2.1 with
              | .nrm => zes ((zcd P E inl nl body).r self .rd hr' ro' r2.2.1 r2.2.2) fun r3 => (match r3.1, zeu .x r3.2.2 (zc8 m) with
                | .nrm, .x => some [(.u (.b true), zma r3.2.2 (zc8 m) .tk)]
                | _, _ => none)
              | _ => none) none
            | _ => none) gi ro hr c (zns P fn (ze4 (ze4 as' [.y (zc8 m)]) cs)) (ze4 m [.tk])) fun r => match retF P fn r with
            | some x => (match zeu .x x.2 (zc8 m) with
              | .tk => some [(.nrm, t, zma x.2 (zc8 m) .x)]
              | _ => none)
            | none => none)
     | _ => none)
   | _ => none⟩
 | _ => ⟨fun _ _ _ _ _ _ => none⟩
theorem c_cond (c : Bool) (f g : CF) (self : zsk) (Y : YE) (hr ro : List Nat) (t : Fr) (m : Mem) : (cond c f g).r self Y hr ro t m = cond c (f.r self Y hr ro t m) (g.r self Y hr ro t m) := by cases c <;> rfl
theorem cCode_ok {P : Program} {E : SPE P} {inl : List Nat} {nl : Nat} {selfE : zsk} {self : zsl} (hs : ∀ {Y : YE} {Z : YC}, Y.Ok Z → zpx (selfE Y) (self Z)) {fi : Nat} :
 ∀ (c : Code) {Y : YE} {Z : YC} (hY : Y.Ok Z) {hr ro : List Nat} {t : Fr} {m : Mem} {rs : zyf} {Q : zet}, (zcd P E inl nl c).r selfE Y hr ro t m = some rs → (∀ r ∈ rs, Q r.1 r.2.1.l r.2.2) → vcC P (HE E inl nl) self fi c Z hr ro Q t.l m := by
 have fj : ∀ a b c, z1t (HE E inl nl).jo a b c = none := fun a b c => rfl
 have fl : ∀ a b c, z1t (HE E inl nl).lo a b c = none := fun a b c => rfl
 intro c
 induction c with
 | skip => intro Y Z hY hr ro t m rs Q h hQ; simp only [zcd] at h; cases h; exact hQ (.nrm, t, m) (by simp)
 | exit id => intro Y Z hY hr ro t m rs Q h hQ; simp only [zcd] at h; cases h; exact hQ (.ext id, t, m) (by simp)
 | ret => intro Y Z hY hr ro t m rs Q h hQ; simp only [zcd] at h; cases h; exact hQ (.ret, t, m) (by simp)
 | label id => intro Y Z hY hr ro t m rs Q h hQ; simp only [zcd] at h; cases h; exact hQ (.nrm, t, m) (by simp)
 | scope c ih => intro Y Z hY hr ro t m rs Q h hQ; simp only [zcd] at h; simp only [vcC]; exact ih hY h hQ
 | region id ops d =>
   intro Y Z hY hr ro t m rs Q h hQ
   simp only [zcd] at h
   rw [c_cond, c_cond, c_cond] at h
   simp only [vcC]
   obtain ⟨h1, h2⟩ := zai h
   rw [h1]
   simp only [cond_true]
   cases d with
   | true =>
     simp only [cond_true] at h2 ⊢
     obtain ⟨h3, h4⟩ := zai h2
     rw [h3]
     simp only [cond_true]
     split at h4
     · rename_i outs ho
       split at h4
       · rename_i l ha
         cases h4
         rw [za3] at ha
         refine zhw (fun h5 => zwl (n := nl) (selfE := selfE Y.sub) (self := self Z.sub) (hs hY.sub)) ho fun x hx => ?_
         exact agreeF_ok ha (fun y hy => hQ (.nrm, y.1, y.2) (z20.2 ⟨y, hy, rfl⟩)) x hx
       · cases h4
     · cases h4
   | false =>
     simp only [cond_false] at h2 ⊢
     split at h2
     · rename_i l hl
       cases h2
       rw [za4] at hl
       exact zt9 (zwl (n := nl) (selfE := selfE Y.sub) (self := self Z.sub) (hs hY.sub)) hY.yh (K := Q .nrm) hl fun x hx => hQ (.nrm, x.1, x.2) (z20.2 ⟨x, hx, rfl⟩)
     · cases h2
 | seq x y ihx ihy =>
   intro Y Z hY hr ro t m rs Q h hQ
   simp only [zcd] at h
   simp only [vcC, fj]
   obtain ⟨l, h1, h2⟩ := za6 h
   refine ihx hY h1 fun r hr => ?_
   obtain ⟨a, h3, h4⟩ := h2 r hr
   obtain ⟨e, t', m'⟩ := r
   cases e with
   | nrm => exact ihy hY h3 fun x hx => hQ x (h4 x hx)
   | ext i =>
     cases h3
     have := hQ (.ext i, t', m') (h4 _ (by simp))
     exact this
   | ret =>
     cases h3
     have := hQ (.ret, t', m') (h4 _ (by simp))
     exact this
 | cond c x y ihx ihy =>
   intro Y Z hY hr ro t m rs Q h hQ
   simp only [zcd] at h
   simp only [vcC]
   rw [zbn] at h
   split at h
   · rename_i b hc
     rw [hc]
     dsimp only
     cases b
     · exact ihy hY h hQ
     · exact ihx hY h hQ
   · cases h
 | block id c ih =>
   intro Y Z hY hr ro t m rs Q h hQ
   simp only [zcd] at h
   simp only [vcC]
   obtain ⟨l, h1, h2⟩ := za6 h
   refine ih hY h1 fun r hr => ?_
   obtain ⟨a, h3, h4⟩ := h2 r hr
   obtain ⟨e, t', m'⟩ := r
   cases e with
   | nrm =>
     cases h3
     have := hQ (.nrm, t', m') (h4 _ (by simp))
     exact this
   | ext j =>
     cases h3
     have := hQ (cond (z14 j id) .nrm (.ext j), t', m') (h4 _ (by simp))
     simp only [zwo]
     dsimp only at this
     cases hb : z14 j id with
     | true => rw [hb] at this; exact this
     | false => rw [hb] at this; exact this
   | ret =>
     cases h3
     have := hQ (.ret, t', m') (h4 _ (by simp))
     exact this
 | loop c ih =>
   intro Y Z hY hr ro t m rs Q h hQ
   simp only [zcd] at h
   simp only [vcC, fl]
   rw [za3] at h
   exact zu3 (step := fun Q => vcC P (HE E inl nl) self fi c Z hr ro Q) (fun h1 h2 => ih hY h1 h2) h hQ
 | rangeFunc g ps assign body iha ihb =>
   intro Y Z hY hr ro t m rs Q h hQ
   cases Y with
   | rd => simp [zcd] at h
   | it b f => simp [zcd] at h
   | out =>
     cases Z with
     | rd => exact hY.elim
     | it b f => exact hY.elim
     | out =>
       simp only [zcd, zbn, za3, za4, zce, zgf] at h
       simp only [vcC]
       split at h
       · rename_i gi as' cs hg
         rw [hg]
         dsimp only
         split at h
         · cases h
         · rename_i fn hf
           rw [hf]
           dsimp only
           split at h
           · cases h
           · rename_i c hc
             rw [hc]
             dsimp only
             obtain ⟨h1, h2⟩ := zms h
             rw [h1]
             simp only [cond_false]
             obtain ⟨l, hl, h3⟩ := za6 h2
             rw [show zd2 P (HE E inl nl).gc fn (as' ++ [V.y m.length] ++ cs) = (zns P fn (as' ++ [V.y m.length] ++ cs)).l from (zvz P fn _).symm]
             refine hs ?_ (Q := zx9 P true fn fun _ m' => isY (mg m' m.length) (Q .nrm t.l (ms m' m.length .x))) hl fun r1 hr1 => ?_
             · refine ⟨rfl, fun {ro' hr' args m1 r2 K} h3 hK => ?_⟩
               dsimp only at h3 ⊢
               split at h3
               · rename_i htk1
                 obtain ⟨h4, h5⟩ := zai h3
                 rw [htk1]
                 simp only [isY, h4, cond_true]
                 obtain ⟨l2, hl2, h6⟩ := za6 h5
                 rw [← zq8] at hl2
                 rw [← zza]
                 refine iha (Y := .rd) (Z := .rd) trivial hl2 fun q hq => ?_
                 obtain ⟨a, h7, h8⟩ := h6 q hq
                 obtain ⟨e2, t2, m2⟩ := q
                 cases e2 with
                 | nrm =>
                   dsimp only at h7
                   obtain ⟨l3, hl3, h9⟩ := za6 h7
                   refine ihb (Y := .rd) (Z := .rd) trivial hl3 fun q3 hq3 => ?_
                   obtain ⟨a3, h10, h11⟩ := h9 q3 hq3
                   obtain ⟨e3, t3, m3⟩ := q3
                   cases e3 with
                   | nrm =>
                     dsimp only at h10
                     dsimp only
                     split at h10
                     · rename_i hx1 hx
                       cases h10
                       rw [hx]
                       have := hK (.u (.b true), m3.set m.length .tk) (h8 _ (h11 _ (by simp)))
                       rw [zq8]; exact this
                     · cases h10
                   | ext i => cases h10
                   | ret => cases h10
                 | ext i => cases h7
                 | ret => cases h7
               · cases h3
             · obtain ⟨a, h4, h5⟩ := h3 r1 hr1
               split at h4
               · rename_i x hx
                 refine zzq hx ?_
                 split at h4
                 · rename_i htk
                   cases h4
                   rw [htk]
                   have := hQ (.nrm, t, x.2.set m.length .x) (h5 _ (by simp))
                   dsimp only [isY]
                   rw [zq8]; exact this
                 · cases h4
               · cases h4
       · cases h
 | _ => intro Y Z hY hr ro t m rs Q h hQ; simp [zcd] at h
noncomputable def runF (P : Program) (E : SPE P) (inl : List Nat) (nl : Nat) (n : Nat) : zsk :=
 Nat.rec (motive := fun _ => zsk) (fun _ _ _ _ _ _ _ => none) (fun _ ih Y _ ro hr c t m => (zcd P E inl nl c).r ih Y hr ro t m) n
theorem zzk {P : Program} {E : SPE P} {inl : List Nat} {nl : Nat} : ∀ (n : Nat) {Y : YE} {Z : YC}, Y.Ok Z → zpx (runF P E inl nl n Y) (runS P (HE E inl nl) n Z)
 | 0, _, _, _ => fun h _ => by cases h
 | n + 1, _, _, hY => fun h hQ => cCode_ok (self := runS P (HE E inl nl) n) (zzk n) _ hY h hQ
def endTE (x : V) (m : Mem) (ix : List Nat) : Option (V × Mem) :=
 cond (zd5 ix (zae x) && zd5 ix (ix.flatMap fun b => za5 (mg m b)) && zgo m.length ix) (some (zcf (fun b => zh9 ix b 0) x, zm2 m ix)) none
def endE (own : Bool) (n : Nat) (r : V × Mem) : Option (V × Mem) :=
 match frzX own r.2 r.1 with
 | none => none
 | some (x1, m1) => endTE x1 m1 (clo m1 1000 (zae x1 ++ (m1.take n).flatMap za5) (z2b n))
theorem endE_ok {own : Bool} {n : Nat} {r x : V × Mem} {Q : V → Mem → Prop} (h : endE own n r = some x) (hQ : Q x.1 x.2) : endS own n Q r.1 r.2 := by
 unfold endE at h
 unfold endS
 split at h
 · cases h
 · rename_i x1 m1 hf
   rw [hf]
   dsimp only
   unfold endTE at h
   unfold endT
   obtain ⟨h1, h2⟩ := zai h
   cases h2
   rw [h1]; exact hQ
noncomputable def zzs (P : Program) (fn : Func) (r : Res) : Option (V × Mem) :=
 match r.1 with
 | .ext _ => none
 | _ => match zta P fn.results.toList r.2.1 r.2.2 with
   | some vs => some (oneV (zmc P fn.resultTypes.toList vs), r.2.2)
   | none => none
theorem z0q (P : Program) : ∀ (Ts : List TypeId) (vs : List V), zmc P Ts vs = zdv P false Ts vs
 | [], vs => by simp only [zmc, zdv]
 | T :: Ts, [] => by simp only [zmc, zdv]
 | T :: Ts, v :: vs => by simp only [zmc, zdv, cond_false]; rw [z0q P Ts vs]
theorem resX0_ok {P : Program} {fn : Func} {r : Res} {x : V × Mem} {K : V → Mem → Prop} (h : zzs P fn r = some x) (hK : K x.1 x.2) : retS P fn K r.1 r.2.1.l r.2.2 := by
 obtain ⟨e, t, m⟩ := r
 unfold zzs at h
 unfold retS zx9
 cases e <;> dsimp only at h ⊢
 case ext i => cases h
 all_goals
  split at h
  · rename_i vs hv
    cases h
    rw [z0q] at hK
    exact zjf (K := fun vs => K (oneV (zdv P false fn.resultTypes.toList vs)) m) hv hK
  · cases h
noncomputable def funF (P : Program) (E : SPE P) (inl : List Nat) (nl n : Nat) (f : FuncId) (fn : Func) (m : Mem) (args : List V) : Option Out :=
 match fn.body with
 | none => none
 | some c => zes (runF P E inl nl n .out f [] [] c (zgm P fn args) m) fun r => match zzs P fn r with
   | some x => zw6 (endE false m.length x)
   | none => none
theorem z1p (P : Program) (fn : Func) (args : List V) : (zgm P fn args).l = z1q P fn args := of_l _
theorem funF_ok {P : Program} {E : SPE P} {inl : List Nat} {nl n : Nat} {f : FuncId} {fn : Func} {m : Mem} {args : List V} {rs : Out} {Q : V → Mem → Prop} (h : funF P E inl nl n f fn m args = some rs) (hQ : ∀ r ∈ rs, Q r.1 r.2) : zp8 P (HE E inl nl) n f fn m args Q := by
 unfold funF at h
 unfold zp8
 split at h
 · cases h
 · rename_i c hc
   rw [hc]
   dsimp only
   obtain ⟨l, h1, h2⟩ := za6 h
   rw [← z1p]
   refine zzk n (Y := .out) (Z := .out) trivial (Q := retS P fn (endS false m.length Q)) h1 fun r hr => ?_
   obtain ⟨a, h3, h4⟩ := h2 r hr
   split at h3
   · rename_i x hx
     obtain ⟨y, h5, rfl⟩ := zha h3
     exact resX0_ok hx (endE_ok h5 (hQ y (h4 y (by simp))))
   · cases h3
theorem zgn {P : Program} (hmix : P.follows .mixedOrders = true) (E : SPE P) {inl : List Nat} {nl n : Nat} {f : FuncId} {fn : Func} (hf : P.funcs[f]? = some fn) (hn : (fn.name == "runtime.NumGoroutine") = false) {m : Mem} {args : List V} {r : V × Mem} (h : funF P E inl nl n f fn m args = some [r]) : PRun P f m args fun x m' => x = r.1 ∧ m' = r.2 :=
 funS hmix hf hn (funF_ok h fun x hx => by rw [z3v.1 hx]; exact ⟨rfl, rfl⟩)
abbrev Mx5 (c0 : Int) (c1 : List (List U)) (c2 : Int) (c3 : List (List U)) (c4 c5 c6 c7 : Int) (p : List (List U)) (pn : Int) (b : List (List U)) (bt : List Int) (G L : Ob) (ds : List (List U)) : Mem := [.c [.i c0, .l 7 c1, .i c2, .l 4 c3, .i c4, .i c5, .i c6, .i c7, .r 1 0, .r 2 0, .r 3 0, .r 4 0, .w 5], .c [.l 5 p, .i pn], .c [.l 5 b, .n .i64 33 bt], .o G, .o L, .w 33 19 ds]
abbrev Mx6 (c0 : Int) (c1 : List (List U)) (c2 : Int) (c3 : List (List U)) (c4 c5 c6 c7 : Int) (p : List (List U)) (pn : Int) (b : List (List U)) (bt : List Int) (G L : Ob) (ds : List (List U)) : Mem := [.c [.i c0, .l 7 c1, .i c2, .l 4 c3, .i c4, .i c5, .i c6, .i c7, .r 1 0, .r 2 0, .r 3 0, .r 4 0, .w 6], .c [.l 5 p, .i pn], .c [.l 5 b, .n .i64 33 bt], .o G, .o L, .x, .w 33 19 ds]
abbrev pMx : List BP := [.c [.i .i64, .l 7, .i .i64, .l 4, .i .i64, .i .i64, .i .i64, .i .i64, .r 1 0, .r 2 0, .r 3 0, .r 4 0, .ow 33 19], .c [.l 5, .i .i64], .c [.l 5, .n 33], .A, .A, .X]
abbrev pDx : RP := .agg [.i .i64, .i .i64, .i .i64, .i .i64, .i .i64, .i .i64, .i .i64, .i .i64, .i .i64, .i .i64, .i .i64, .i .i64, .i .i64, .l 2, .l 2, .i .i64, .i .i64, .i .i64, .i .i64]
abbrev aDx (a b c d e f g h i j k l m : Int) (n o : List (List U)) (p q r s : Int) : V := .a [.i a, .i b, .i c, .i d, .i e, .i f, .i g, .i h, .i i, .i j, .i k, .i l, .i m, .l 2 n, .l 2 o, .i p, .i q, .i r, .i s]
abbrev rDx (a b c d e f g h i j k l m : Int) (n o : List (List U)) (p q r s : Int) : List U := [.n a, .n b, .n c, .n d, .n e, .n f, .n g, .n h, .n i, .n j, .n k, .n l, .n m, .l 2 n, .l 2 o, .n p, .n q, .n r, .n s]
abbrev dup6 (B : Prop) : Prop := ((dup2 B) ∧ dup2 (dup2 B)) ∧ ((dup2 B) ∧ B) ∧ ((dup2 B) ∧ B)
theorem dup6_of {B : Prop} (h : B) : dup6 B := ⟨⟨⟨h, h⟩, ⟨h, h⟩, ⟨h, h⟩⟩, ⟨⟨h, h⟩, h⟩, ⟨h, h⟩, h⟩
def dDx (r : List U) (K : Int → Int → Int → Int → Int → Int → Int → Int → Int → Int → Int → Int → Int → List (List U) → List (List U) → Int → Int → Int → Int → Prop) : Prop :=
 dI .i64 (ug r 0) fun a => dI .i64 (ug r 1) fun b => dI .i64 (ug r 2) fun c => dI .i64 (ug r 3) fun d => dI .i64 (ug r 4) fun e => dI .i64 (ug r 5) fun f => dI .i64 (ug r 6) fun g => dI .i64 (ug r 7) fun h => dI .i64 (ug r 8) fun i => dI .i64 (ug r 9) fun j => dI .i64 (ug r 10) fun k => dI .i64 (ug r 11) fun l => dI .i64 (ug r 12) fun m => dL 2 (ug r 13) fun n => dL 2 (ug r 14) fun o => dI .i64 (ug r 15) fun p => dI .i64 (ug r 16) fun q => dI .i64 (ug r 17) fun s => dI .i64 (ug r 18) fun t => K a b c d e f g h i j k l m n o p q s t
section
variable {P : Program} {E : SPE P} {inl : List Nat} {nl n : Nat}
noncomputable abbrev zdn (P : Program) (E : SPE P) (inl : List Nat) (nl n : Nat) (c : Code) (t : Fr) (m : Mem) : Option zyf := (zcd P E inl nl c).r (runF P E inl nl n) .out [] [] t m
noncomputable def evK (P : Program) (E : SPE P) (inl : List Nat) (nl n : Nat) : Nat → Code → Fr → Mem → Option (Fr × Mem)
 | 0, _, t, m => some (t, m)
 | k + 1, .seq x y, t, m => match zdn P E inl nl n x t m with
   | some [(.nrm, t1, m1)] => evK P E inl nl n k y t1 m1
   | _ => none
 | _ + 1, _, _, _ => none
def zb3 : Nat → Code → Code
 | 0, c => c
 | k + 1, .seq _ y => zb3 k y
 | _ + 1, c => c
theorem evK_ok : ∀ {k : Nat} {c : Code} {t t1 : Fr} {m m1 : Mem}, evK P E inl nl n k c t m = some (t1, m1) → zdn P E inl nl n c t m = zdn P E inl nl n (zb3 k c) t1 m1
 | 0, c, t, t1, m, m1, h => by cases h; rfl
 | k + 1, .seq x y, t, t1, m, m1, h => by
   simp only [evK] at h
   split at h
   · rename_i t2 m2 h2
     rw [zb3, ← evK_ok h]
     show zes (zdn P E inl nl n x t m) _ = _
     rw [h2]
     rfl
   · cases h
 | _ + 1, .skip, _, _, _, _, h => by simp [evK] at h
 | _ + 1, .region .., _, _, _, _, h => by simp [evK] at h
 | _ + 1, .cond .., _, _, _, _, h => by simp [evK] at h
 | _ + 1, .block .., _, _, _, _, h => by simp [evK] at h
 | _ + 1, .loop .., _, _, _, _, h => by simp [evK] at h
 | _ + 1, .exit .., _, _, _, _, h => by simp [evK] at h
 | _ + 1, .ret, _, _, _, _, h => by simp [evK] at h
 | _ + 1, .scope .., _, _, _, _, h => by simp [evK] at h
 | _ + 1, .label .., _, _, _, _, h => by simp [evK] at h
 | _ + 1, .rangeFunc .., _, _, _, _, h => by simp [evK] at h
 | _ + 1, .goto .., _, _, _, _, h => by simp [evK] at h
theorem zls : ∀ {a b : Nat} {c : Code}, zb3 b (zb3 a c) = zb3 (a + b) c
 | 0, b, c => by rw [z2l]; rfl
 | a + 1, b, .seq x y => by rw [show a + 1 + b = (a + b) + 1 by omega]; exact zls (c := y)
 | a + 1, b, c => by
   cases c with
   | seq x y => rw [show a + 1 + b = (a + b) + 1 by omega]; exact zls (c := y)
   | _ => cases b <;> rfl
theorem zd3 {k j : Nat} {c : Code} {t t1 : Fr} {m m1 : Mem} (h : evK P E inl nl n k (zb3 j c) t m = some (t1, m1)) : zdn P E inl nl n (zb3 j c) t m = zdn P E inl nl n (zb3 (j + k) c) t1 m1 := by rw [evK_ok h, zls]
def zbc (fn : Func) : Code := match fn.body with
 | some c => c
 | none => .skip
noncomputable def endK (P : Program) (fn : Func) (m : Mem) (r : Option zyf) : Option (V × Mem) :=
 match r with
 | some [r] => (match zzs P fn r with
   | some x => endE false m.length x
   | none => none)
 | _ => none
theorem funF_of {f : FuncId} {fn : Func} {c : Code} (hc : fn.body = some c) {m : Mem} {args : List V} {y : V × Mem} (h : endK P fn m (zdn P E inl nl n c (zgm P fn args) m) = some y) : funF P E inl nl (n + 1) f fn m args = some [y] := by
 unfold endK at h
 unfold funF
 rw [hc]
 dsimp only
 have e : runF P E inl nl (n + 1) .out f [] [] c (zgm P fn args) m = zdn P E inl nl n c (zgm P fn args) m := rfl
 rw [e]
 split at h
 · rename_i r hr
   rw [hr]
   show (match zzs P fn r with | some x => zw6 (endE false m.length x) | none => none) = _
   split at h
   · rename_i x hx
     rw [h]; rfl
   · cases h
 · cases h
end
section
set_option maxRecDepth 100000
theorem mixTp : Tryz.prog.follows .mixedOrders = true := by kernel_rfl
theorem S194 {x : Int} {Q : V → Mem → Prop} (hh : Q (.u (.b (x != x))) []) : PRun Tryz.prog 194 [] [.i x] Q :=
 zak mixTp Tryz.func194 (by kernel_rfl) (H := ⟨[], [], [], [], [], false, 64, KN.no, false, SP.no⟩) (n := 2) (by kernel_rfl) hh
theorem S177 {x : Int} {y : Int} {Q : V → Mem → Prop} (hh : PRun Tryz.prog 194 [] [.i x] (post [.B] [] (fun b1 => (PRun Tryz.prog 194 [] [.i y] (post [.B] [] (fun b2 => (bif b1 then (bif b2 then Q (.i 0) [] else Q (.i (-1)) []) else (bif b2 then Q (.i 1) [] else (bif decide (x < y) then Q (.i (-1)) [] else (bif decide (x > y) then Q (.i 1) [] else Q (.i 0) []))) : Prop))) : Prop)))) : PRun Tryz.prog 177 [] [.i x, .i y] Q :=
 zak mixTp Tryz.func177 (by kernel_rfl) (H := ⟨[], [], [], [], [], false, 64, KN.no, false, SP.no⟩) (n := 2) (by kernel_rfl) hh
theorem S146 {a_0 : Int} {a_1 : Int} {a_2 : Int} {a_3 : Int} {b_0 : Int} {b_1 : Int} {b_2 : Int} {b_3 : Int} {Q : V → Mem → Prop} (hh : bif eqI [a_0, a_1, a_2, a_3] [b_0, b_1, b_2, b_3] then Q (.i 0) [] else PRun Tryz.prog 177 [] [.i a_0, .i b_0] (post [.I] [] (fun x1 => (bif x1 != 0 then Q (.i x1) [] else PRun Tryz.prog 177 [] [.i a_1, .i b_1] (post [.I] [] (fun x2 => (bif x2 != 0 then Q (.i x2) [] else PRun Tryz.prog 177 [] [.i a_2, .i b_2] (post [.I] [] (fun x3 => (bif x3 != 0 then Q (.i x3) [] else PRun Tryz.prog 177 [] [.i a_3, .i b_3] (post [.I] [] (fun x4 => (bif x4 != 0 then Q (.i x4) [] else Q (.i 0) [] : Prop))) : Prop))) : Prop))) : Prop)))) : PRun Tryz.prog 146 [] [.a [.i a_0, .i a_1, .i a_2, .i a_3], .a [.i b_0, .i b_1, .i b_2, .i b_3]] Q :=
 zak mixTp Tryz.func146 (by kernel_rfl) (H := ⟨[], [], [], [], [], false, 64, KN.no, false, SP.no⟩) (n := 2) (by kernel_rfl) hh
theorem S143 {x : List (List U)} {target_0 : Int} {target_1 : Int} {target_2 : Int} {target_3 : Int} {Q : V → Mem → Prop} (hh : ∃ (I1 : Int → Int → Prop) (f1 : Int → Int → Nat), I1 0 (z15 x : Int) ∧ (∀ x1 : Int, ∀ x2 : Int, I1 x1 x2 → (bif decide (x1 < x2) then 0 ≤ (1 : Int) ∧ (elL x (z13 .i64 (Int.fdiv (z13 .u64 (z13 .i64 (x1 + x2))) (2 ^ (1)))) (fun r1 => dI .i64 (ug r1 0) (fun x3 => dI .i64 (ug r1 1) (fun x4 => dI .i64 (ug r1 2) (fun x5 => dI .i64 (ug r1 3) (fun x6 => dI .i64 (ug r1 4) (fun x7 => PRun Tryz.prog 146 [] [.a [.i x3, .i x4, .i x5, .i x6], .a [.i target_0, .i target_1, .i target_2, .i target_3]] (post [.I] [] (fun x8 => (bif decide (x8 < 0) then I1 (z13 .i64 (z13 .i64 (Int.fdiv (z13 .u64 (z13 .i64 (x1 + x2))) (2 ^ (1))) + 1)) x2 ∧ f1 (z13 .i64 (z13 .i64 (Int.fdiv (z13 .u64 (z13 .i64 (x1 + x2))) (2 ^ (1))) + 1)) x2 < f1 x1 x2 else I1 x1 (z13 .i64 (Int.fdiv (z13 .u64 (z13 .i64 (x1 + x2))) (2 ^ (1)))) ∧ f1 x1 (z13 .i64 (Int.fdiv (z13 .u64 (z13 .i64 (x1 + x2))) (2 ^ (1)))) < f1 x1 x2 : Prop)))))))))) else (bif decide (x1 < (z15 x : Int)) then elL x x1 (fun r2 => dI .i64 (ug r2 0) (fun x9 => dI .i64 (ug r2 1) (fun x10 => dI .i64 (ug r2 2) (fun x11 => dI .i64 (ug r2 3) (fun x12 => dI .i64 (ug r2 4) (fun x13 => PRun Tryz.prog 146 [] [.a [.i x9, .i x10, .i x11, .i x12], .a [.i target_0, .i target_1, .i target_2, .i target_3]] (post [.I] [] (fun x14 => (Q (.t [.i x1, .u (.b (x14 == 0))]) [] : Prop))))))))) else Q (.t [.i x1, .u (.b false)]) [])))) : PRun Tryz.prog 143 [] [.l 5 x, .a [.i target_0, .i target_1, .i target_2, .i target_3], .f 145 [] []] Q :=
 zak mixTp Tryz.func143 (by kernel_rfl) (H := ⟨[((143, 3, 1), ⟨[(9, .I), (10, .I)], []⟩)], [], [145], [], [], false, 64, KN.no, false, SP.no⟩) (n := 3) (by kernel_rfl) hh
end
section
variable {Q : V → Mem → Prop}
theorem z1i {x : Int} (k : Q (.u (.b false)) []) : PRun Tryz.prog 194 [] [.i x] Q := S194 (by simpa using k)
theorem zr4 {x y : Int} (k : Q (.i (if x < y then -1 else if y < x then 1 else 0)) []) : PRun Tryz.prog 177 [] [.i x, .i y] Q := by
 refine S177 (z1i ?_)
 rw [zci]
 refine z1i ?_
 rw [zci]
 refine cIf (fun h => by rwa [if_pos h] at k) fun h => cIf (fun h2 => ?_) fun h2 => ?_
 · rw [if_neg h, if_pos (show y < x from h2)] at k; exact k
 · rw [if_neg h, if_neg (show ¬ y < x from h2)] at k; exact k
abbrev kV (k : K4) : V := .a [.i k.a, .i k.b, .i k.c, .i k.d]
def cmpK (x y : K4) : Int := if x = y then 0 else if x.lt y then -1 else 1
theorem cmpK_S {x y : K4} (k : Q (.i (cmpK x y)) []) : PRun Tryz.prog 146 [] [kV x, kV y] Q := by
 refine S146 ?_
 rw [zlq]
 refine cIf (fun h => ?_) fun h => ?_
 · simp only [List.cons.injEq, and_true] at h
   have : x = y := K4.ext' h.1 h.2.1 h.2.2.1 h.2.2.2
   unfold cmpK at k
   rwa [if_pos this] at k
 have hne : x ≠ y := fun e => h (by rw [e])
 unfold cmpK at k
 rw [if_neg hne] at k
 have step : ∀ {a b : Int} {K : Prop}, (a < b → Q (.i (-1)) []) → (b < a → Q (.i 1) []) → (a = b → K) → PRun Tryz.prog 177 [] [.i a, .i b] (post [.I] [] (fun x1 => (bif x1 != 0 then Q (.i x1) [] else K : Prop))) := fun {a b K} h1 h2 h3 => by
  refine zr4 ?_
  rw [zax]
  by_cases hab : a < b
  · rw [if_pos hab]; exact h1 hab
  · by_cases hba : b < a
    · rw [if_neg hab, if_pos hba]; exact h2 hba
    · rw [if_neg hab, if_neg hba]; exact h3 (by omega)
 have lt : x.lt y → Q (.i (-1)) [] := fun h => by rwa [if_pos h] at k
 have gt : y.lt x → Q (.i 1) [] := fun h => by rwa [if_neg (K4.asym h)] at k
 refine step (fun h => lt (.inl h)) (fun h => gt (.inl h)) fun e1 => ?_
 refine step (fun h => lt (.inr ⟨e1, .inl h⟩)) (fun h => gt (.inr ⟨e1.symm, .inl h⟩)) fun e2 => ?_
 refine step (fun h => lt (.inr ⟨e1, .inr ⟨e2, .inl h⟩⟩)) (fun h => gt (.inr ⟨e1.symm, .inr ⟨e2.symm, .inl h⟩⟩)) fun e3 => ?_
 refine step (fun h => lt (.inr ⟨e1, .inr ⟨e2, .inr ⟨e3, h⟩⟩⟩)) (fun h => gt (.inr ⟨e1.symm, .inr ⟨e2.symm, .inr ⟨e3.symm, h⟩⟩⟩)) fun e4 => ?_
 exact absurd (K4.ext' e1 e2 e3 e4) hne
def eT (r : K4 × Int) : List U := [.n r.1.a, .n r.1.b, .n r.1.c, .n r.1.d, .n r.2]
theorem zwg {x y : K4} : cmpK x y < 0 ↔ x.lt y := by
 unfold cmpK
 by_cases h : x = y
 · subst h; simp [K4.irr]
 · rw [if_neg h]
   by_cases h2 : x.lt y
   · simp [h2]
   · simp [h2]
theorem cmpK_zero {x y : K4} : cmpK x y = 0 ↔ x = y := by
 unfold cmpK
 by_cases h : x = y
 · simp [h]
 · rw [if_neg h]
   by_cases h2 : x.lt y <;> simp [h2, h]
theorem zb9 {l : Tb} {k : K4} (hs : Srt l) (hl : l.length ≤ 1000000) (kk : Q (.t [.i (zba k l : Nat), .u (.b (zaq k l).isSome)]) []) : PRun Tryz.prog 143 [] [.l 5 (l.map eT), kV k, .f 145 [] []] Q := by
 have hlen : ((l.map eT).length : Int) = (l.length : Int) := by rw [z2d]
 refine S143 ⟨fun x y => ∃ a b : Nat, x = (a : Int) ∧ y = (b : Int) ∧ a ≤ b ∧ b ≤ l.length ∧ (∀ (i : Nat) (r : K4 × Int), i < a → l[i]? = some r → r.1.lt k) ∧ (∀ (i : Nat) (r : K4 × Int), b ≤ i → l[i]? = some r → ¬ r.1.lt k), fun x y => (y - x).toNat, ⟨0, l.length, rfl, hlen, z3j _, z2r _, fun i r h => by omega, fun i r h hr => by rw [z3u h] at hr; cases hr⟩, ?_⟩
 rintro _ _ ⟨a, b, rfl, rfl, hab, hbl, h1, h2⟩
 refine cIf (fun h => ?_) fun h => ?_
 · have hlt : a < b := by omega
   have e1 : z13 .i64 ((a : Int) + b) = (a : Int) + b := w64 (by omega) (by omega)
   have e2 : z13 .u64 ((a : Int) + b) = (a : Int) + b := by rw [z4f]; omega
   have e3 : Int.fdiv ((a : Int) + b) (2 ^ 1) = (((a + b) / 2 : Nat) : Int) := by
    rw [← z5g]
    show Int.fdiv ((a + b : Nat) : Int) 2 = _
    rw [z6l _ (by omega)]
    omega
   have e4 : z13 .i64 (((a + b) / 2 : Nat) : Int) = (((a + b) / 2 : Nat) : Int) := w64 (by omega) (by omega)
   rw [e1, e2, show ((2 : Int) ^ (1 : Nat)) = 2 ^ 1 from rfl, e3, e4]
   generalize hm : (a + b) / 2 = m
   have hm1 : a ≤ m := by omega
   have hm2 : m < b := by omega
   have hml : m < l.length := by omega
   refine ⟨by omega, ?_⟩
   rw [zav (r := eT l[m]) (by omega) (by simp [hml])]
   simp only [eT, ug0, ugs, zcs]
   refine cmpK_S (x := l[m].1) (y := k) ?_
   rw [zax]
   have e5 : z13 .i64 ((m : Int) + 1) = ((m + 1 : Nat) : Int) := by rw [w64 (by omega) (by omega)]; omega
   refine cIf (fun hc => ?_) fun hc => ?_
   · rw [zwg] at hc
     rw [e5]
     refine ⟨⟨m + 1, b, rfl, rfl, by omega, hbl, fun i r hi hr => ?_, h2⟩, by omega⟩
     by_cases hia : i < a
     · exact h1 i r hia hr
     · have hil : i < l.length := by omega
       by_cases him : i = m
       · subst him
         rw [z2c hml] at hr
         cases hr
         exact hc
       · have hlt2 : r.1.lt l[m].1 := by
          rw [z2c hil] at hr
          cases hr
          exact z5q.1 hs i m hil hml (by omega)
         exact hlt2.trans hc
   · rw [zwg] at hc
     refine ⟨⟨a, m, rfl, rfl, hm1, by omega, h1, fun i r hi hr => ?_⟩, by omega⟩
     have hil : i < l.length := by
      rcases z3z i l.length with q | q
      · exact q
      · rw [z3u q] at hr; cases hr
     by_cases him : i = m
     · subst him
       rw [z2c hml] at hr
       cases hr
       exact hc
     · rw [z2c hil] at hr
       cases hr
       exact fun h3 => hc ((z5q.1 hs m i hml hil (by omega)).trans h3)
 · have : b = a := by omega
   subst this
   have hp := tpos_eq hs hbl h1 h2
   have hg := zs3 (k := k) hs
   rw [← hp] at hg kk
   rw [hlen]
   refine cIf (fun hc => ?_) fun hc => ?_
   · have hlt : b < l.length := by omega
     rw [zav (r := eT l[b]) (by omega) (by simp [hlt])]
     simp only [eT, ug0, ugs, zcs]
     refine cmpK_S (x := l[b].1) (y := k) ?_
     rw [zax]
     rw [z2c hlt] at hg
     dsimp only at hg
     have : (cmpK l[b].1 k == 0) = (zaq k l).isSome := by
      rw [hg]
      by_cases e : l[b].1 = k
      · rw [if_pos e]; simp [cmpK_zero.2 e]
      · rw [if_neg e]
        have : cmpK l[b].1 k ≠ 0 := fun h => e (cmpK_zero.1 h)
        simp [this]
     rw [this]
     exact kk
   · rw [z3u (by omega)] at hg
     dsimp only at hg
     rw [hg] at kk
     exact kk
end
section
set_option maxRecDepth 100000
theorem mixTq : Tryz.prog.follows .mixedOrders = true := by kernel_rfl
theorem S10 {p_0 : List (List U)} {p_1 : Int} {owner : Int} {Q : V → Mem → Prop} (hh : PRun Tryz.prog 143 [] [.l 5 p_0, .a [.i owner, .i 0, .i 0, .i 0], .f 145 [] []] (post [.I, .B] [] (fun x1 b1 => (bif !b1 then Q (.t [.i 0, .i 3]) [.c [.l 5 p_0, .i p_1]] else elL p_0 x1 (fun r1 => dI .i64 (ug r1 4) (fun x2 => Q (.t [.i x2, .i 0]) [.c [.l 5 p_0, .i p_1]])) : Prop)))) : PRun Tryz.prog 10 [.c [.l 5 p_0, .i p_1]] [.r 0 0, .i owner] Q :=
 zak mixTq Tryz.func10 (by kernel_rfl) (H := ⟨[], [], [45, 46, 100, 144], [], [], false, 64, KN.no, false, SP.no⟩) (n := 5) (by kernel_rfl) hh
theorem S82 {p_0 : List (List U)} {p_1 : Int} {owner : Int} {Q : V → Mem → Prop} (hh : bif decide (owner < 0) then Q (.i 1) [.c [.l 5 p_0, .i p_1]] else (bif decide (owner > 1099511627776) then Q (.i 1) [.c [.l 5 p_0, .i p_1]] else PRun Tryz.prog 143 [] [.l 5 p_0, .a [.i owner, .i 0, .i 0, .i 0], .f 145 [] []] (post [.I, .B] [] (fun x1 b1 => (bif !b1 then PRun Tryz.prog 143 [] [.l 5 p_0, .a [.i owner, .i 0, .i 0, .i 0], .f 145 [] []] (post [.I, .B] [] (fun x2 b2 => (0 ≤ x2 ∧ (x2 ≤ (z15 p_0 : Int) ∧ (z15 p_0 : Int) ≤ (z15 p_0 : Int) ∧ (bif b2 then 0 ≤ (1 : Int) ∧ ((1 : Int) ≤ (z15 (List.drop (z16 x2) (List.take (z15 p_0) p_0)) : Int) ∧ (z15 (List.drop (z16 x2) (List.take (z15 p_0) p_0)) : Int) ≤ (z15 (List.drop (z16 x2) (List.take (z15 p_0) p_0)) : Int) ∧ ((0 : Int) ≤ x2 ∧ x2 ≤ (z15 p_0 : Int) ∧ x2 = x2 ∧ (zbo (List.take (z16 x2) p_0) [[.n owner, .n 0, .n 0, .n 0, .n 0]] ∧ (zbo (List.take (z16 x2) p_0 ++ [[.n owner, .n 0, .n 0, .n 0, .n 0]]) (List.drop 1 (List.take (z15 (List.drop (z16 x2) (List.take (z15 p_0) p_0))) (List.drop (z16 x2) (List.take (z15 p_0) p_0)))) ∧ (Q (.i 0) [.c [.w 1, .i p_1], .w 191 5 (List.take (z16 x2) p_0 ++ [[.n owner, .n 0, .n 0, .n 0, .n 0]] ++ List.drop 1 (List.take (z15 (List.drop (z16 x2) (List.take (z15 p_0) p_0))) (List.drop (z16 x2) (List.take (z15 p_0) p_0))))]))))) else (0 : Int) ≤ x2 ∧ x2 ≤ (z15 p_0 : Int) ∧ x2 = x2 ∧ (zbo (List.take (z16 x2) p_0) [[.n owner, .n 0, .n 0, .n 0, .n 0]] ∧ (zbo (List.take (z16 x2) p_0 ++ [[.n owner, .n 0, .n 0, .n 0, .n 0]]) (List.drop (z16 x2) (List.take (z15 p_0) p_0)) ∧ (Q (.i 0) [.c [.w 1, .i p_1], .w 191 5 (List.take (z16 x2) p_0 ++ [[.n owner, .n 0, .n 0, .n 0, .n 0]] ++ List.drop (z16 x2) (List.take (z15 p_0) p_0))]))))) : Prop))) else elL p_0 x1 (fun r1 => dI .i64 (ug r1 4) (fun x3 => Q (.i 9) [.c [.l 5 p_0, .i p_1]])) : Prop))))) : PRun Tryz.prog 82 [.c [.l 5 p_0, .i p_1]] [.r 0 0, .i owner] Q :=
 zak mixTq Tryz.func82 (by kernel_rfl) (H := ⟨[], [], [45, 46, 85, 100, 144], [], [], false, 64, KN.no, false, SP.no⟩) (n := 5) (by kernel_rfl) hh
theorem S93 {p_0 : List (List U)} {p_1 : Int} {owner : Int} {n : Int} {Q : V → Mem → Prop} (hh : ∀ k1 : Int → Prop, (∀ x1 : Int, (PRun Tryz.prog 143 [] [.l 5 p_0, .a [.i owner, .i 0, .i 0, .i 0], .f 145 [] []] (post [.I, .B] [] (fun x2 b1 => (0 ≤ x2 ∧ (x2 ≤ (z15 p_0 : Int) ∧ (z15 p_0 : Int) ≤ (z15 p_0 : Int) ∧ (bif b1 then 0 ≤ (1 : Int) ∧ ((1 : Int) ≤ (z15 (List.drop (z16 x2) (List.take (z15 p_0) p_0)) : Int) ∧ (z15 (List.drop (z16 x2) (List.take (z15 p_0) p_0)) : Int) ≤ (z15 (List.drop (z16 x2) (List.take (z15 p_0) p_0)) : Int) ∧ ((0 : Int) ≤ x2 ∧ x2 ≤ (z15 p_0 : Int) ∧ x2 = x2 ∧ (zbo (List.take (z16 x2) p_0) [[.n owner, .n 0, .n 0, .n 0, .n (z13 .i64 (x1 + n))]] ∧ (zbo (List.take (z16 x2) p_0 ++ [[.n owner, .n 0, .n 0, .n 0, .n (z13 .i64 (x1 + n))]]) (List.drop 1 (List.take (z15 (List.drop (z16 x2) (List.take (z15 p_0) p_0))) (List.drop (z16 x2) (List.take (z15 p_0) p_0)))) ∧ (Q (.t []) [.c [.w 1, .i (z13 .i64 (p_1 + n))], .w 191 5 (List.take (z16 x2) p_0 ++ [[.n owner, .n 0, .n 0, .n 0, .n (z13 .i64 (x1 + n))]] ++ List.drop 1 (List.take (z15 (List.drop (z16 x2) (List.take (z15 p_0) p_0))) (List.drop (z16 x2) (List.take (z15 p_0) p_0))))]))))) else (0 : Int) ≤ x2 ∧ x2 ≤ (z15 p_0 : Int) ∧ x2 = x2 ∧ (zbo (List.take (z16 x2) p_0) [[.n owner, .n 0, .n 0, .n 0, .n (z13 .i64 (x1 + n))]] ∧ (zbo (List.take (z16 x2) p_0 ++ [[.n owner, .n 0, .n 0, .n 0, .n (z13 .i64 (x1 + n))]]) (List.drop (z16 x2) (List.take (z15 p_0) p_0)) ∧ (Q (.t []) [.c [.w 1, .i (z13 .i64 (p_1 + n))], .w 191 5 (List.take (z16 x2) p_0 ++ [[.n owner, .n 0, .n 0, .n 0, .n (z13 .i64 (x1 + n))]] ++ List.drop (z16 x2) (List.take (z15 p_0) p_0))]))))) : Prop)))) → k1 x1) → PRun Tryz.prog 143 [] [.l 5 p_0, .a [.i owner, .i 0, .i 0, .i 0], .f 145 [] []] (post [.I, .B] [] (fun x3 b2 => (bif !b2 then k1 0 else elL p_0 x3 (fun r1 => dI .i64 (ug r1 4) (fun x4 => k1 x4)) : Prop)))) : PRun Tryz.prog 93 [.c [.l 5 p_0, .i p_1]] [.r 0 0, .i owner, .i n] Q :=
 zak mixTq Tryz.func93 (by kernel_rfl) (H := ⟨[], [((93, 1, 1), ⟨[(6, .I)], []⟩)], [45, 46, 85, 100, 144], [], [], false, 64, KN.no, false, SP.no⟩) (n := 5) (by kernel_rfl) hh
theorem S78 {p_0 : List (List U)} {p_1 : Int} {Q : V → Mem → Prop} (hh : ∃ (I1 : Int → List (List U) → Prop) (f1 : Int → List (List U) → Nat), I1 0 [] ∧ (∀ x1 : Int, ∀ l1 : List (List U), I1 x1 l1 → (bif decide (x1 < (z15 p_0 : Int)) then elL p_0 x1 (fun r1 => dI .i64 (ug r1 0) (fun x2 => dI .i64 (ug r1 1) (fun x3 => dI .i64 (ug r1 2) (fun x4 => dI .i64 (ug r1 3) (fun x5 => dI .i64 (ug r1 4) (fun x6 => zbo l1 [[.n x2, .n x6]] ∧ (I1 (z13 .i64 (x1 + 1)) (l1 ++ [[.n x2, .n x6]]) ∧ f1 (z13 .i64 (x1 + 1)) (l1 ++ [[.n x2, .n x6]]) < f1 x1 l1))))))) else Q (.l 2 l1) [.c [.l 5 p_0, .i p_1]]))) : PRun Tryz.prog 78 [.c [.l 5 p_0, .i p_1]] [.r 0 0] Q :=
 zak mixTq Tryz.func78 (by kernel_rfl) (H := ⟨[((190, 1, 5), ⟨[(7, .I)], [(1, .c [.ow 161 2])]⟩)], [], [131, 144, 172, 190], [], [], false, 64, KN.no, false, SP.no⟩) (n := 4) (by kernel_rfl) hh
end
section
variable {Q : V → Mem → Prop}
abbrev oK (o : Int) : K4 := ⟨o, 0, 0, 0⟩
abbrev pC (l : Tb) (n : Int) : AB := .c [.l 5 (l.map eT), .i n]
theorem zec {k : K4} {l : Tb} {v : Int} (hs : Srt l) (h : zaq k l = some v) : l[zba k l]? = some (k, v) := by
 have := zs3 (k := k) hs
 rw [h] at this
 split at this
 · rename_i r hr
   split at this
   · rename_i e
     cases this
     rw [hr, ← e]
   · cases this
 · cases this
theorem zdj {l : Tb} {n o : Int} (hs : Srt l) (hl : l.length ≤ 1000000) (k : Q (.t [.i (zag (oK o) l), .i (if (zaq (oK o) l).isSome then 0 else 3)]) [pC l n]) : PRun Tryz.prog 10 [pC l n] [.r 0 0, .i o] Q := by
 refine S10 (zb9 (k := oK o) hs hl ?_)
 show (bif !(zaq (oK o) l).isSome then _ else _ : Prop)
 cases hg : zaq (oK o) l with
 | none =>
   simp only [zag, hg] at k
   exact k
 | some v =>
   have hr := zec hs hg
   have hlt := (z2a.1 hr).1
   simp only [zag, hg, z3b, Option.isSome_some, if_true] at k
   show elL (l.map eT) (zba (oK o) l : Nat) _
   rw [zav (r := eT (oK o, v)) (by omega) (by simp [hr])]
   simp only [eT, ug0, ugs, zcs]
   exact k
theorem zoh {k : K4} {v : Int} {l : Tb} (hs : Srt l) {b : Bool} (hb : b = (zaq k l).isSome) {K : List (List U) → Prop} (hl : l.length ≤ 1000000 - 1) (hK : K ((zeo k v l).map eT)) :
 0 ≤ ((zba k l : Nat) : Int) ∧ (((zba k l : Nat) : Int) ≤ (z15 (l.map eT) : Int) ∧ (z15 (l.map eT) : Int) ≤ (z15 (l.map eT) : Int) ∧ (bif b then 0 ≤ (1 : Int) ∧ ((1 : Int) ≤ (z15 (List.drop (z16 ((zba k l : Nat) : Int)) (List.take (z15 (l.map eT)) (l.map eT))) : Int) ∧ (z15 (List.drop (z16 ((zba k l : Nat) : Int)) (List.take (z15 (l.map eT)) (l.map eT))) : Int) ≤ (z15 (List.drop (z16 ((zba k l : Nat) : Int)) (List.take (z15 (l.map eT)) (l.map eT))) : Int) ∧ ((0 : Int) ≤ ((zba k l : Nat) : Int) ∧ ((zba k l : Nat) : Int) ≤ (z15 (l.map eT) : Int) ∧ ((zba k l : Nat) : Int) = ((zba k l : Nat) : Int) ∧ (zbo (List.take (z16 ((zba k l : Nat) : Int)) (l.map eT)) [[.n k.a, .n k.b, .n k.c, .n k.d, .n v]] ∧ (zbo (List.take (z16 ((zba k l : Nat) : Int)) (l.map eT) ++ [[.n k.a, .n k.b, .n k.c, .n k.d, .n v]]) (List.drop 1 (List.take (z15 (List.drop (z16 ((zba k l : Nat) : Int)) (List.take (z15 (l.map eT)) (l.map eT)))) (List.drop (z16 ((zba k l : Nat) : Int)) (List.take (z15 (l.map eT)) (l.map eT))))) ∧ K (List.take (z16 ((zba k l : Nat) : Int)) (l.map eT) ++ [[.n k.a, .n k.b, .n k.c, .n k.d, .n v]] ++ List.drop 1 (List.take (z15 (List.drop (z16 ((zba k l : Nat) : Int)) (List.take (z15 (l.map eT)) (l.map eT)))) (List.drop (z16 ((zba k l : Nat) : Int)) (List.take (z15 (l.map eT)) (l.map eT))))))))) else (0 : Int) ≤ ((zba k l : Nat) : Int) ∧ ((zba k l : Nat) : Int) ≤ (z15 (l.map eT) : Int) ∧ ((zba k l : Nat) : Int) = ((zba k l : Nat) : Int) ∧ (zbo (List.take (z16 ((zba k l : Nat) : Int)) (l.map eT)) [[.n k.a, .n k.b, .n k.c, .n k.d, .n v]] ∧ (zbo (List.take (z16 ((zba k l : Nat) : Int)) (l.map eT) ++ [[.n k.a, .n k.b, .n k.c, .n k.d, .n v]]) (List.drop (z16 ((zba k l : Nat) : Int)) (List.take (z15 (l.map eT)) (l.map eT))) ∧ K (List.take (z16 ((zba k l : Nat) : Int)) (l.map eT) ++ [[.n k.a, .n k.b, .n k.c, .n k.d, .n v]] ++ List.drop (z16 ((zba k l : Nat) : Int)) (List.take (z15 (l.map eT)) (l.map eT))))))) := by
 have hp := zjv k l
 have e := zsz (k := k) (v := v) hs
 have hr : eT (k, v) = [.n k.a, .n k.b, .n k.c, .n k.d, .n v] := rfl
 simp only [z4r, z27, z2d]
 refine ⟨by omega, by omega, z2v _, ?_⟩
 subst hb
 cases hg : (zaq k l).isSome with
 | true =>
   obtain ⟨w, hw⟩ := z6b.1 hg
   have hlt := (z2a.1 (zec hs hw)).1
   rw [hg] at e
   simp only [cond_true] at e ⊢
   rw [e, z28, z2s, z5b, List.map_drop, hr] at hK
   refine ⟨by omega, by simp; omega, by simp, by omega, by omega, trivial, ?_, ?_, ?_⟩
   · unfold zbo; simp; omega
   · unfold zbo; simp; omega
   · rw [z4x, z2m, z5d (show (l.map eT).length ≤ l.length by simp)]
     exact hK
 | false =>
   rw [hg] at e
   simp only [cond_false, z4b] at e ⊢
   rw [e, z28, z2s, z5b, List.map_drop, hr] at hK
   refine ⟨by omega, by omega, trivial, ?_, ?_, ?_⟩
   · unfold zbo; simp; omega
   · unfold zbo; simp; omega
   · rw [z2m, z5d (show (l.map eT).length ≤ l.length by simp)]
     exact hK
def zkd (o : Int) (l : Tb) : Int := if o < 0 then 1 else if 1099511627776 < o then 1 else if (zaq (oK o) l).isSome then 9 else 0
def zg9 (o : Int) (l : Tb) : Tb := if zkd o l = 0 then zeo (oK o) 0 l else l
theorem open_S {l : Tb} {n o : Int} (hs : Srt l) (hl : l.length ≤ 999999) (k : Q (.i (zkd o l)) [pC (zg9 o l) n]) : PRun Tryz.prog 82 [pC l n] [.r 0 0, .i o] Q := by
 refine PRun.trim (PRun.frz 0 0 (S82 ?_))
 unfold zg9 at k
 refine cIf (fun h => ?_) fun h => cIf (fun h2 => ?_) fun h2 => zb9 (k := oK o) hs (by omega) ?_
 · have e : zkd o l = 1 := if_pos h
   rw [e] at k
   exact k
 · have e : zkd o l = 1 := by unfold zkd; rw [if_neg h, if_pos (show 1099511627776 < o from h2)]
   rw [e] at k
   exact k
 show (bif !(zaq (oK o) l).isSome then _ else _ : Prop)
 cases hg : zaq (oK o) l with
 | some v =>
   have e : zkd o l = 9 := by unfold zkd; rw [if_neg h, if_neg (show ¬ 1099511627776 < o from h2), hg]; rfl
   rw [e] at k
   have hr := zec hs hg
   show elL (l.map eT) (zba (oK o) l : Nat) _
   rw [zav (r := eT (oK o, v)) (by omega) (by simp [hr])]
   simp only [eT, ug0, ugs, zcs]
   exact k
 | none =>
   have e : zkd o l = 0 := by unfold zkd; rw [if_neg h, if_neg (show ¬ 1099511627776 < o from h2), hg]; rfl
   rw [e] at k
   refine zb9 (k := oK o) hs (by omega) ?_
   exact zoh (k := oK o) (v := 0) hs rfl (by omega) (K := fun rows => Q (.i 0) (zyx 1 (.i 0) (frzAt [.c [.w 1, .i n], .w 191 5 rows] 0 0))) k
theorem adds_S {l : Tb} {n o x : Int} (hs : Srt l) (hl : l.length ≤ 999999) (k : Q (.t []) [pC (zeo (oK o) (z13 .i64 (zag (oK o) l + x)) l) (z13 .i64 (n + x))]) : PRun Tryz.prog 93 [pC l n] [.r 0 0, .i o, .i x] Q := by
 refine PRun.trim (PRun.frz 0 0 (S93 ?_))
 intro k1 hk1
 have main : k1 (zag (oK o) l) := by
  refine hk1 _ (zb9 (k := oK o) hs (by omega) ?_)
  exact zoh (k := oK o) (v := z13 .i64 (zag (oK o) l + x)) hs rfl (by omega) (K := fun rows => Q (.t []) (zyx 1 (.t []) (frzAt [.c [.w 1, .i (z13 .i64 (n + x))], .w 191 5 rows] 0 0))) k
 refine zb9 (k := oK o) hs (by omega) ?_
 show (bif !(zaq (oK o) l).isSome then _ else _ : Prop)
 cases hg : zaq (oK o) l with
 | none =>
   simp only [zag, hg] at main
   exact main
 | some v =>
   have hr := zec hs hg
   simp only [zag, hg, z3b] at main
   show elL (l.map eT) (zba (oK o) l : Nat) _
   rw [zav (r := eT (oK o, v)) (by omega) (by simp [hr])]
   simp only [eT, ug0, ugs, zcs]
   exact main
end
section
set_option maxRecDepth 100000
theorem zkj : Tryz.prog.follows .mixedOrders = true := by kernel_rfl
theorem S84 {x_0 : Int} {x_1 : Int} {x_2 : Int} {x_3 : Int} {Q : V → Mem → Prop} (hh : bif decide (x_0 ≥ 0) then (bif decide (x_0 ≤ 1099511627776) then (bif decide (x_1 ≥ 0) then (bif decide (x_1 ≤ 4) then (bif decide (x_2 ≥ 1) then (bif decide (x_2 ≤ 8) then (bif decide (x_3 ≥ 1) then Q (.u (.b (decide (x_3 ≤ 32)))) [] else Q (.u (.b false)) []) else Q (.u (.b false)) []) else Q (.u (.b false)) []) else Q (.u (.b false)) []) else Q (.u (.b false)) []) else Q (.u (.b false)) []) else Q (.u (.b false)) []) : PRun Tryz.prog 84 [] [.a [.i x_0, .i x_1, .i x_2, .i x_3]] Q :=
 zak zkj Tryz.func84 (by kernel_rfl) (H := ⟨[], [], [76], [], [], false, 64, KN.no, false, SP.no⟩) (n := 3) (by kernel_rfl) hh
theorem S63 {b_0 : List (List U)} {b_1 : List Int} {x_0 : Int} {x_1 : Int} {x_2 : Int} {x_3 : Int} {Q : V → Mem → Prop} (hh : PRun Tryz.prog 143 [] [.l 5 b_0, .a [.i x_0, .i x_1, .i x_2, .i x_3], .f 145 [] []] (post [.I, .B] [] (fun x1 b1 => (bif !b1 then Q (.i 0) [.c [.l 5 b_0, .n .i64 33 b_1]] else elL b_0 x1 (fun r1 => dI .i64 (ug r1 4) (fun x2 => Q (.i x2) [.c [.l 5 b_0, .n .i64 33 b_1]])) : Prop)))) : PRun Tryz.prog 63 [.c [.l 5 b_0, .n .i64 33 b_1]] [.r 0 0, .a [.i x_0, .i x_1, .i x_2, .i x_3]] Q :=
 zak zkj Tryz.func63 (by kernel_rfl) (H := ⟨[], [], [45, 86, 100, 144], [], [], false, 64, KN.no, false, SP.no⟩) (n := 5) (by kernel_rfl) hh
theorem S118 {b_0 : List (List U)} {b_1 : List Int} {x_0 : Int} {x_1 : Int} {x_2 : Int} {x_3 : Int} {n : Int} {Q : V → Mem → Prop} (hh : PRun Tryz.prog 63 [.c [.l 5 b_0, .n .i64 33 b_1]] [.r 0 0, .a [.i x_0, .i x_1, .i x_2, .i x_3]] (post [.I] [.c [.l 5, .n 33]] (fun x1 l1 a1 => (bif z13 .i64 (x1 + n) == 0 then PRun Tryz.prog 143 [] [.l 5 l1, .a [.i x_0, .i x_1, .i x_2, .i x_3], .f 145 [] []] (post [.I, .B] [] (fun x2 b1 => (bif b1 then (0 : Int) ≤ x2 ∧ x2 ≤ (z15 l1 : Int) ∧ x2 = x2 ∧ (0 ≤ z13 .i64 (x2 + 1) ∧ (z13 .i64 (x2 + 1) ≤ (z15 l1 : Int) ∧ (z15 l1 : Int) ≤ (z15 l1 : Int) ∧ (zbo (List.take (z16 x2) l1) (List.drop (z16 (z13 .i64 (x2 + 1))) (List.take (z15 l1) l1)) ∧ (match (List.drop (z16 (z13 .i64 (x2 + 1))) (List.take (z15 l1) l1)) with | _ :: _ => (0 ≤ x_3 ∧ x_3 < (33 : Int) ∧ (elL a1 x_3 (fun x3 => 0 ≤ x_3 ∧ x_3 < (33 : Int) ∧ (Q (.t []) [.c [.w 1, .n .i64 33 (z2q a1 (z16 x_3) (z13 .i64 (x3 + n)))], .w 191 5 (List.take (z16 x2) l1 ++ List.drop (z16 (z13 .i64 (x2 + 1))) (List.take (z15 l1) l1))])))) | [] => (0 ≤ x_3 ∧ x_3 < (33 : Int) ∧ (elL a1 x_3 (fun x4 => 0 ≤ x_3 ∧ x_3 < (33 : Int) ∧ (Q (.t []) [.c [.c 5 (List.take (z16 x2) l1), .n .i64 33 (z2q a1 (z16 x_3) (z13 .i64 (x4 + n)))]])))) : Prop)))) else 0 ≤ x_3 ∧ x_3 < (33 : Int) ∧ (elL a1 x_3 (fun x5 => 0 ≤ x_3 ∧ x_3 < (33 : Int) ∧ (Q (.t []) [.c [.l 5 l1, .n .i64 33 (z2q a1 (z16 x_3) (z13 .i64 (x5 + n)))]]))) : Prop))) else PRun Tryz.prog 143 [] [.l 5 l1, .a [.i x_0, .i x_1, .i x_2, .i x_3], .f 145 [] []] (post [.I, .B] [] (fun x6 b2 => (0 ≤ x6 ∧ (x6 ≤ (z15 l1 : Int) ∧ (z15 l1 : Int) ≤ (z15 l1 : Int) ∧ (bif b2 then 0 ≤ (1 : Int) ∧ ((1 : Int) ≤ (z15 (List.drop (z16 x6) (List.take (z15 l1) l1)) : Int) ∧ (z15 (List.drop (z16 x6) (List.take (z15 l1) l1)) : Int) ≤ (z15 (List.drop (z16 x6) (List.take (z15 l1) l1)) : Int) ∧ ((0 : Int) ≤ x6 ∧ x6 ≤ (z15 l1 : Int) ∧ x6 = x6 ∧ (zbo (List.take (z16 x6) l1) [[.n x_0, .n x_1, .n x_2, .n x_3, .n (z13 .i64 (x1 + n))]] ∧ (zbo (List.take (z16 x6) l1 ++ [[.n x_0, .n x_1, .n x_2, .n x_3, .n (z13 .i64 (x1 + n))]]) (List.drop 1 (List.take (z15 (List.drop (z16 x6) (List.take (z15 l1) l1))) (List.drop (z16 x6) (List.take (z15 l1) l1)))) ∧ (0 ≤ x_3 ∧ x_3 < (33 : Int) ∧ (elL a1 x_3 (fun x7 => 0 ≤ x_3 ∧ x_3 < (33 : Int) ∧ (Q (.t []) [.c [.w 1, .n .i64 33 (z2q a1 (z16 x_3) (z13 .i64 (x7 + n)))], .w 191 5 (List.take (z16 x6) l1 ++ [[.n x_0, .n x_1, .n x_2, .n x_3, .n (z13 .i64 (x1 + n))]] ++ List.drop 1 (List.take (z15 (List.drop (z16 x6) (List.take (z15 l1) l1))) (List.drop (z16 x6) (List.take (z15 l1) l1))))])))))))) else (0 : Int) ≤ x6 ∧ x6 ≤ (z15 l1 : Int) ∧ x6 = x6 ∧ (zbo (List.take (z16 x6) l1) [[.n x_0, .n x_1, .n x_2, .n x_3, .n (z13 .i64 (x1 + n))]] ∧ (zbo (List.take (z16 x6) l1 ++ [[.n x_0, .n x_1, .n x_2, .n x_3, .n (z13 .i64 (x1 + n))]]) (List.drop (z16 x6) (List.take (z15 l1) l1)) ∧ (0 ≤ x_3 ∧ x_3 < (33 : Int) ∧ (elL a1 x_3 (fun x8 => 0 ≤ x_3 ∧ x_3 < (33 : Int) ∧ (Q (.t []) [.c [.w 1, .n .i64 33 (z2q a1 (z16 x_3) (z13 .i64 (x8 + n)))], .w 191 5 (List.take (z16 x6) l1 ++ [[.n x_0, .n x_1, .n x_2, .n x_3, .n (z13 .i64 (x1 + n))]] ++ List.drop (z16 x6) (List.take (z15 l1) l1))])))))))) : Prop))) : Prop)))) : PRun Tryz.prog 118 [.c [.l 5 b_0, .n .i64 33 b_1]] [.r 0 0, .a [.i x_0, .i x_1, .i x_2, .i x_3], .i n] Q :=
 zak zkj Tryz.func118 (by kernel_rfl) (H := ⟨[], [], [85, 86, 100, 144, 160], [], [], false, 64, KN.no, false, SP.no⟩) (n := 5) (by kernel_rfl) hh
theorem S59 {b_0 : List (List U)} {b_1 : List Int} {x_0 : Int} {x_1 : Int} {x_2 : Int} {x_3 : Int} {n : Int} {Q : V → Mem → Prop} (hh : PRun Tryz.prog 84 [] [.a [.i x_0, .i x_1, .i x_2, .i x_3]] (post [.B] [] (fun b1 => (bif !b1 then Q (.i 1) [.c [.l 5 b_0, .n .i64 33 b_1]] else (bif decide (n < 0) then Q (.i 1) [.c [.l 5 b_0, .n .i64 33 b_1]] else 0 ≤ x_3 ∧ x_3 < (33 : Int) ∧ (elL b_1 x_3 (fun x1 => (bif decide (n > z13 .i64 (1125899906842624 - x1)) then Q (.i 5) [.c [.l 5 b_0, .n .i64 33 b_1]] else PRun Tryz.prog 118 [.c [.l 5 b_0, .n .i64 33 b_1]] [.r 0 0, .a [.i x_0, .i x_1, .i x_2, .i x_3], .i n] (post [] [.c [.l 5, .n 33]] (fun l1 a1 => (Q (.i 0) [.c [.l 5 l1, .n .i64 33 a1]] : Prop))))))) : Prop)))) : PRun Tryz.prog 59 [.c [.l 5 b_0, .n .i64 33 b_1]] [.r 0 0, .a [.i x_0, .i x_1, .i x_2, .i x_3], .i n] Q :=
 zak zkj Tryz.func59 (by kernel_rfl) (H := ⟨[], [], [], [], [], false, 64, KN.no, false, SP.no⟩) (n := 2) (by kernel_rfl) hh
theorem S108 {b_0 : List (List U)} {b_1 : List Int} {x_0 : Int} {x_1 : Int} {x_2 : Int} {x_3 : Int} {n : Int} {Q : V → Mem → Prop} (hh : PRun Tryz.prog 84 [] [.a [.i x_0, .i x_1, .i x_2, .i x_3]] (post [.B] [] (fun b1 => (bif !b1 then Q (.i 1) [.c [.l 5 b_0, .n .i64 33 b_1]] else (bif decide (n < 0) then Q (.i 1) [.c [.l 5 b_0, .n .i64 33 b_1]] else PRun Tryz.prog 63 [.c [.l 5 b_0, .n .i64 33 b_1]] [.r 0 0, .a [.i x_0, .i x_1, .i x_2, .i x_3]] (post [.I] [.c [.l 5, .n 33]] (fun x1 l1 a1 => (bif decide (n > x1) then Q (.i 7) [.c [.l 5 l1, .n .i64 33 a1]] else PRun Tryz.prog 118 [.c [.l 5 l1, .n .i64 33 a1]] [.r 0 0, .a [.i x_0, .i x_1, .i x_2, .i x_3], .i (z13 .i64 (0 - n))] (post [] [.c [.l 5, .n 33]] (fun l2 a2 => (Q (.i 0) [.c [.l 5 l2, .n .i64 33 a2]] : Prop))) : Prop)))) : Prop)))) : PRun Tryz.prog 108 [.c [.l 5 b_0, .n .i64 33 b_1]] [.r 0 0, .a [.i x_0, .i x_1, .i x_2, .i x_3], .i n] Q :=
 zak zkj Tryz.func108 (by kernel_rfl) (H := ⟨[], [], [], [], [], false, 64, KN.no, false, SP.no⟩) (n := 2) (by kernel_rfl) hh
theorem S31 {b_0 : List (List U)} {b_1 : List Int} {kind : Int} {Q : V → Mem → Prop} (hh : bif decide (kind ≥ 1) then (bif !(decide (kind ≤ 32)) then Q (.i 0) [.c [.l 5 b_0, .n .i64 33 b_1]] else 0 ≤ kind ∧ kind < (33 : Int) ∧ (elL b_1 kind (fun x1 => Q (.i x1) [.c [.l 5 b_0, .n .i64 33 b_1]]))) else Q (.i 0) [.c [.l 5 b_0, .n .i64 33 b_1]]) : PRun Tryz.prog 31 [.c [.l 5 b_0, .n .i64 33 b_1]] [.r 0 0, .i kind] Q :=
 zak zkj Tryz.func31 (by kernel_rfl) (H := ⟨[], [], [76], [], [], false, 64, KN.no, false, SP.no⟩) (n := 3) (by kernel_rfl) hh
theorem S77 {b_0 : List (List U)} {b_1 : List Int} {Q : V → Mem → Prop} (hh : ∃ (I1 : Int → List (List U) → Prop) (f1 : Int → List (List U) → Nat), I1 0 [] ∧ (∀ x1 : Int, ∀ l1 : List (List U), I1 x1 l1 → (bif decide (x1 < (z15 b_0 : Int)) then elL b_0 x1 (fun r1 => dI .i64 (ug r1 0) (fun x2 => dI .i64 (ug r1 1) (fun x3 => dI .i64 (ug r1 2) (fun x4 => dI .i64 (ug r1 3) (fun x5 => dI .i64 (ug r1 4) (fun x6 => zbo l1 [[.n x2, .n x3, .n x4, .n x5, .n x6]] ∧ (I1 (z13 .i64 (x1 + 1)) (l1 ++ [[.n x2, .n x3, .n x4, .n x5, .n x6]]) ∧ f1 (z13 .i64 (x1 + 1)) (l1 ++ [[.n x2, .n x3, .n x4, .n x5, .n x6]]) < f1 x1 l1))))))) else Q (.l 5 l1) [.c [.l 5 b_0, .n .i64 33 b_1]]))) : PRun Tryz.prog 77 [.c [.l 5 b_0, .n .i64 33 b_1]] [.r 0 0] Q :=
 zak zkj Tryz.func77 (by kernel_rfl) (H := ⟨[((190, 1, 5), ⟨[(7, .I)], [(1, .c [.ow 163 5])]⟩)], [], [131, 144, 172, 190], [], [], false, 64, KN.no, false, SP.no⟩) (n := 4) (by kernel_rfl) hh
end
section
variable {Q : V → Mem → Prop}
abbrev bC (l : Tb) (a : List Int) : AB := .c [.l 5 (l.map eT), .n .i64 33 a]
def isB (k : K4) : Bool := decide (k.a ≥ 0) && (decide (k.a ≤ 1099511627776) && (decide (k.b ≥ 0) && (decide (k.b ≤ 4) && (decide (k.c ≥ 1) && (decide (k.c ≤ 8) && (decide (k.d ≥ 1) && decide (k.d ≤ 32)))))))
theorem zoz {k : Bool → Prop} {c r : Bool} {T : Prop} (h : k (c && r)) (hT : k r → T) : bif c then T else k false := by
 cases c with
 | true => exact hT h
 | false => exact h
theorem isB_S {k : K4} (K : Q (.u (.b (isB k))) []) : PRun Tryz.prog 84 [] [kV k] Q := by
 refine S84 ?_
 generalize hk : (fun b => Q (.u (.b b)) []) = q
 have e : ∀ b, Q (.u (.b b)) [] = q b := fun b => by rw [← hk]
 rw [e] at K
 simp only [e]
 exact zoz K fun h => zoz h fun h => zoz h fun h => zoz h fun h => zoz h fun h => zoz h fun h => zoz h fun h => h
theorem qty_S {l : Tb} {a : List Int} {k : K4} (hs : Srt l) (hl : l.length ≤ 1000000) (K : Q (.i (zag k l)) [bC l a]) : PRun Tryz.prog 63 [bC l a] [.r 0 0, kV k] Q := by
 refine S63 (zb9 (k := k) hs hl ?_)
 show (bif !(zaq k l).isSome then _ else _ : Prop)
 cases hg : zaq k l with
 | none =>
   simp only [zag, hg] at K
   exact K
 | some v =>
   have hr := zec hs hg
   have hlt := (z2a.1 hr).1
   simp only [zag, hg, z3b] at K
   show elL (l.map eT) (zba k l : Nat) _
   rw [zav (r := eT (k, v)) (by omega) (by simp [hr])]
   simp only [eT, ug0, ugs, zcs]
   exact K
end
section
variable {P : Program} {D : Fz} {ρ : List Loc} {m : Mem} {chs C : List zab} {h : zac}
def unc : V → V
 | .c s r => .u (.l s r)
 | v => v
def uncA : AB → AB
 | .c l => .c (l.map unc)
 | a => a
theorem unc_S {v : Value} {x : V} (r : Rp D ρ v x) : Rp D ρ v (unc x) := by
 by_cases hx : ∃ s q, x = .c s q
 · obtain ⟨s, q, rfl⟩ := hx
   obtain ⟨a, rfl, h⟩ := r.c_inv
   exact .u h
 · have : unc x = x := by
    cases x <;> first | rfl | exact absurd ⟨_, _, rfl⟩ hx
   rw [this]; exact r
theorem zyr : ∀ {l : List V} {vs : List Value}, RpC D ρ vs l → RpC D ρ vs (l.map unc)
 | [], _, .nil => .nil
 | _ :: _, _, .cons a b c => .cons (unc_S a) (fun k w l e => by
     rename_i x xs vs v
     cases x <;> simp only [unc] at e <;> first | exact b _ _ _ e | cases e) (zyr c)
 | _ :: _, _, .n e c => .n e (zyr c)
theorem SAt.unc (M : SAt D ρ m chs C h) : SAt D ρ (m.map uncA) chs C h where
 len := by rw [z2d]; exact M.len
 lch := by rw [z2d]; exact M.lch
 ent i L ab ch h1 h2 h3 := by
  rw [z2i] at h2
  obtain ⟨a, h4, rfl⟩ := z3k.1 h2
  have he := M.ent i L a ch h1 h4 h3
  cases he with
  | c hc => exact .c (zyr hc)
  | w a b => exact .w a b
  | o a => exact .o a
  | p a b c => exact .p a b c
  | tk a => exact .tk a
  | x => exact .x
  | cw a b c d e f => exact .cw a b c d e f
 st := M.st
theorem PRun.unc {g : FuncId} {args : List V} {Q : V → Mem → Prop} (hh : PRun P g m args fun x m' => Q x (m'.map uncA)) : PRun P g m args Q := by
 intro D ρ chs C h vs M F
 refine (hh D ρ chs C h vs M F).mono ?_
 rintro v h' ⟨D', s, chs', x, m', le, M', hv, hq⟩
 exact ⟨D', s, chs', x, m'.map uncA, le, M'.unc, hv, hq⟩
end
section
variable {Q : V → Mem → Prop}
def zhx (k : K4) (v : Int) (l : Tb) : Tb := if v = 0 then zm0 k l else zeo k v l
def aset (a : List Int) (d n : Int) : List Int := a.set d.toNat (z13 .i64 ((a[d.toNat]?).getD 0 + n))
theorem adds_B {l : Tb} {a : List Int} {k : K4} {n : Int} (hs : Srt l) (hl : l.length ≤ 999999) (ha : a.length = 33) (hd : 0 ≤ k.d ∧ k.d < 33) (K : Q (.t []) [bC (zhx k (z13 .i64 (zag k l + n)) l) (aset a k.d n)]) :
 PRun Tryz.prog 118 [bC l a] [.r 0 0, kV k, .i n] Q := by
 obtain ⟨v, hv⟩ : ∃ v, a[k.d.toNat]? = some v := ⟨a[k.d.toNat]'(by omega), z2c (by omega)⟩
 have tot : ∀ {T : Int → Prop}, T v → 0 ≤ k.d ∧ k.d < (33 : Int) ∧ elL a k.d (fun x => 0 ≤ k.d ∧ k.d < (33 : Int) ∧ T x) := fun h => by
  refine ⟨hd.1, hd.2, ?_⟩
  rw [zav (r := v) hd.1 hv]
  exact ⟨hd.1, hd.2, h⟩
 have ea : aset a k.d n = a.set k.d.toNat (z13 .i64 (v + n)) := by unfold aset; rw [hv]; rfl
 rw [ea] at K
 refine PRun.unc (PRun.trim (PRun.frz 0 0 (S118 (qty_S hs (by omega) ?_))))
 show (bif z13 .i64 (zag k l + n) == 0 then _ else _ : Prop)
 refine cEq (fun h0 => ?_) fun h0 => ?_
 · rw [h0] at K
   unfold zhx at K
   rw [if_pos rfl, zs4 hs] at K
   refine zb9 (k := k) hs (by omega) ?_
   show (bif (zaq k l).isSome then _ else _ : Prop)
   cases hg : zaq k l with
   | none =>
     rw [hg] at K
     exact tot K
   | some w =>
     rw [hg] at K
     have hlt := (z2a.1 (zec hs hg)).1
     simp only [Option.isSome_some, cond_true] at K ⊢
     have e1 : z13 .i64 (((zba k l : Nat) : Int) + 1) = ((zba k l + 1 : Nat) : Int) := by rw [w64 (by omega) (by omega)]; omega
     have et : List.take l.length (l.map eT) = l.map eT := z5d (by simp)
     simp only [e1, z27, z2d, et]
     simp only [bC, z28, z5b, List.map_drop] at K
     refine ⟨by omega, by omega, trivial, by omega, by omega, z2v _, by unfold zbo; simp; omega, ?_⟩
     split
     · exact tot K
     · rename_i hm
       rw [hm, z3a] at K
       exact tot K
 · unfold zhx at K
   rw [if_neg h0] at K
   refine zb9 (k := k) hs (by omega) ?_
   exact zoh (k := k) (v := z13 .i64 (zag k l + n)) hs rfl (by omega) (K := fun rows => 0 ≤ k.d ∧ k.d < (33 : Int) ∧ elL a k.d (fun x => 0 ≤ k.d ∧ k.d < (33 : Int) ∧ Q (.t []) (z26 uncA (zyx 1 (.t []) (frzAt [.c [.w 1, .n .i64 33 (z2q a (z16 k.d) (z13 .i64 (x + n)))], .w 191 5 rows] 0 0))))) (tot K)
end
def zga (f : K4 → Bool) : Tb → Int
 | [] => 0
 | r :: l => (if f r.1 then r.2 else 0) + zga f l
theorem tget_low {k : K4} {r : K4 × Int} {l : Tb} (hs : Srt (r :: l)) (h : ¬ r.1.lt k) (e : ¬ r.1 = k) : zaq k l = none := by
 rcases K4.tri r.1 k with h1 | h1 | h1
 · exact absurd h1 h
 · exact absurd h1 e
 · exact zdq fun s hs' => h1.trans (hs.head s hs')
theorem zum {f : K4 → Bool} {k : K4} {v : Int} : ∀ {l : Tb}, Srt l → zga f (zeo k v l) = zga f l + (if f k then v - zag k l else 0)
 | [], _ => by simp [zeo, zga, zag, zaq]
 | r :: l, hs => by
   simp only [zeo]
   by_cases h : r.1.lt k
   · have e : ¬ r.1 = k := fun e => K4.irr k (by rwa [e] at h)
     rw [if_pos h]
     simp only [zga, zag, zaq, if_neg e]
     rw [zum hs.tail]
     simp only [zag]
     omega
   · rw [if_neg h]
     by_cases e : r.1 = k
     · rw [if_pos e]
       simp only [zga, zag, zaq, e, if_true, z3b]
       split <;> omega
     · rw [if_neg e]
       simp only [zga, zag, zaq, if_neg e, tget_low hs h e, Option.getD_none]
       split <;> omega
theorem zun {f : K4 → Bool} {k : K4} : ∀ {l : Tb}, Srt l → zga f (zm0 k l) = zga f l - (if f k then zag k l else 0)
 | [], _ => by simp [zm0, zga, zag, zaq]
 | r :: l, hs => by
   simp only [zm0]
   by_cases e : r.1 = k
   · rw [if_pos e]
     simp only [zga, zag, zaq, e, if_true, z3b]
     split <;> omega
   · rw [if_neg e]
     simp only [zga, zag, zaq, if_neg e]
     rw [zun hs.tail]
     simp only [zag]
     omega
theorem zev {f : K4 → Bool} {k : K4} {v : Int} {l : Tb} (hs : Srt l) : zga f (zhx k v l) = zga f l + (if f k then v - zag k l else 0) := by
 unfold zhx
 split
 · rename_i h
   subst h
   rw [zun hs]
   split <;> omega
 · exact zum hs
theorem zjn {k : K4} {v : Int} {l : Tb} (hs : Srt l) : Srt (zhx k v l) := by
 unfold zhx
 split
 · exact zuu hs
 · exact zeb hs
theorem bset_get {k : K4} {v : Int} {l : Tb} (j : K4) (hs : Srt l) : zaq j (zhx k v l) = if j = k then (if v = 0 then none else some v) else zaq j l := by
 unfold zhx
 split
 · exact zn3 j hs
 · exact zfs j hs
theorem zph {k : K4} {v : Int} {l : Tb} (j : K4) (hs : Srt l) : zag j (zhx k v l) = if j = k then v else zag j l := by
 unfold zag
 rw [bset_get j hs]
 by_cases h : j = k
 · rw [if_pos h, if_pos h]
   split
   · rename_i h2; rw [h2]; rfl
   · rfl
 · rw [if_neg h, if_neg h]
theorem bset_mem {k : K4} {v : Int} {l : Tb} {r : K4 × Int} (h : r ∈ zhx k v l) : (r = (k, v) ∧ v ≠ 0) ∨ r ∈ l := by
 unfold zhx at h
 split at h
 · exact .inr (zn1 h)
 · rename_i hv
   exact (zjb h).imp (fun e => ⟨e, hv⟩) id
theorem zjc {k : K4} {v : Int} : ∀ {l : Tb}, (zeo k v l).length ≤ l.length + 1
 | [] => by simp [zeo]
 | r :: l => by
   have := zjc (k := k) (v := v) (l := l)
   simp only [zeo]
   split
   · simp only [z2o]; omega
   · split <;> simp
theorem zn2 {k : K4} : ∀ {l : Tb}, (zm0 k l).length ≤ l.length
 | [] => by simp [zm0]
 | r :: l => by
   have := zn2 (k := k) (l := l)
   simp only [zm0]
   split <;> simp only [z2o] <;> omega
theorem zpi {k : K4} {v : Int} {l : Tb} : (zhx k v l).length ≤ l.length + 1 := by
 unfold zhx
 split
 · have := zn2 (k := k) (l := l); omega
 · exact zjc
theorem zyg {f : K4 → Bool} : ∀ {l : Tb}, (∀ r ∈ l, 0 ≤ r.2) → 0 ≤ zga f l
 | [], _ => z2v _
 | r :: l, h => by
   have h1 := h r z2p
   have h2 := zyg (f := f) (l := l) fun s hs => h s (z2j _ hs)
   simp only [zga]
   split <;> omega
theorem zqc {f : K4 → Bool} {k : K4} (hf : f k = true) : ∀ {l : Tb}, (∀ r ∈ l, 0 ≤ r.2) → 0 ≤ zag k l ∧ zag k l ≤ zga f l
 | [], _ => ⟨z2v _, z2v _⟩
 | r :: l, h => by
   have h1 := h r z2p
   have h3 := zyg (f := f) (l := l) fun s hs => h s (z2j _ hs)
   have h2 := zqc hf (l := l) fun s hs => h s (z2j _ hs)
   simp only [zag, zaq, zga] at *
   by_cases e : r.1 = k
   · rw [if_pos e, z3b, e, if_pos hf]; omega
   · rw [if_neg e]; split <;> omega
section
variable {Q : V → Mem → Prop}
def tyQ (d : Int) (l : Tb) : Int := zga (fun k => k.d == d) l
def zgb (l : Tb) : List Int := (z2b 33).map fun i : Nat => tyQ (i : Int) l
theorem zjd (l : Tb) : (zgb l).length = 33 := by simp [zgb]
theorem zgt (l : Tb) {d : Int} (h : 0 ≤ d ∧ d < 33) : (zgb l)[d.toNat]? = some (tyQ d l) := by
 obtain ⟨n, rfl⟩ := z4e h.1
 unfold zgb
 rw [show (n : Int).toNat = n from rfl, z2i, z5s (by omega)]
 rfl
structure BInv (l : Tb) : Prop where
 srt : Srt l
 key : ∀ r ∈ l, isB r.1 = true ∧ 1 ≤ r.2
 top : ∀ d, tyQ d l ≤ 1125899906842624
theorem BInv.nn {l : Tb} (h : BInv l) : ∀ r ∈ l, 0 ≤ r.2 := fun r hr => by have := (h.key r hr).2; omega
theorem BInv.val {l : Tb} (h : BInv l) (k : K4) : 0 ≤ zag k l ∧ zag k l ≤ tyQ k.d l := zqc (by simp) h.nn
theorem zxm {k : K4} (h : isB k = true) : 1 ≤ k.d ∧ k.d ≤ 32 := by
 simp only [isB, z17, decide_eq_true_eq] at h; omega
theorem BInv.set {l : Tb} {k : K4} {n : Int} (h : BInv l) (hk : isB k = true) (h0 : 0 ≤ zag k l + n) (ht : tyQ k.d l + n ≤ 1125899906842624) : BInv (zhx k (zag k l + n) l) where
 srt := zjn h.srt
 key r hr := by
  rcases bset_mem hr with ⟨e, hv⟩ | e
  · subst e; exact ⟨hk, by show 1 ≤ zag k l + n; omega⟩
  · exact h.key r e
 top d := by
  unfold tyQ
  rw [zev h.srt]
  split
  · rename_i e
    simp only [beq_iff_eq] at e
    subst e
    have : zga (fun j => j.d == k.d) l = tyQ k.d l := rfl
    omega
  · have := h.top d; unfold tyQ at this; omega
theorem tots_set {l : Tb} {k : K4} {n : Int} (h : BInv l) (hk : isB k = true) (h0 : 0 ≤ tyQ k.d l + n) (ht : tyQ k.d l + n ≤ 1125899906842624) : aset (zgb l) k.d n = zgb (zhx k (zag k l + n) l) := by
 have hd := zxm hk
 unfold aset
 rw [zgt l (by omega), z3b, w64 (by omega) (by omega)]
 apply z4o
 intro i
 by_cases hi : i < 33
 · have e2 : (zgb (zhx k (zag k l + n) l))[i]? = some (tyQ (i : Int) (zhx k (zag k l + n) l)) := zgt _ (d := (i : Int)) (by omega)
   rw [e2]
   unfold tyQ
   rw [zev h.srt]
   by_cases e : k.d.toNat = i
   · have e3 : k.d = (i : Int) := by omega
     rw [e, z3x (by rw [zjd]; omega), if_pos (by simp [e3]), e3]
     congr 1; omega
   · rw [z23 e, if_neg (by simp; omega), Int.add_zero]
     exact zgt l (d := (i : Int)) (by omega)
 · rw [z3u (by rw [z3d, zjd]; omega), z3u (by rw [zjd]; omega)]
abbrev bK (l : Tb) : AB := bC l (zgb l)
theorem adds_S2 {l : Tb} {k : K4} {n : Int} (h : BInv l) (hl : l.length ≤ 999999) (hk : isB k = true) (h0 : 0 ≤ zag k l + n) (h1 : 0 ≤ tyQ k.d l + n) (ht : tyQ k.d l + n ≤ 1125899906842624) (K : Q (.t []) [bK (zhx k (zag k l + n) l)]) :
 PRun Tryz.prog 118 [bK l] [.r 0 0, kV k, .i n] Q := by
 have hd := zxm hk
 have hv := h.val k
 refine adds_B h.srt hl (zjd l) (by omega) ?_
 rw [tots_set h hk h1 ht, w64 (by omega) (by omega)]
 exact K
theorem put_B {l : Tb} {k : K4} {n : Int} (h : BInv l) (hl : l.length ≤ 999999) (k1 : isB k = false ∨ n < 0 → Q (.i 1) [bK l]) (k2 : isB k = true → 0 ≤ n → 1125899906842624 - tyQ k.d l < n → Q (.i 5) [bK l])
 (k3 : isB k = true → 0 ≤ n → tyQ k.d l + n ≤ 1125899906842624 → Q (.i 0) [bK (zhx k (zag k l + n) l)]) : PRun Tryz.prog 59 [bK l] [.r 0 0, kV k, .i n] Q := by
 refine S59 (isB_S ?_)
 rw [zci]
 cases hk : isB k with
 | false => exact k1 (.inl hk)
 | true =>
   have hd := zxm hk
   have hv := h.val k
   have ht := h.top k.d
   refine cIf (fun h1 => k1 (.inr h1)) fun h1 => ⟨by omega, by omega, ?_⟩
   rw [zav (r := tyQ k.d l) (by omega) (zgt l (by omega)), w64 (by omega) (by omega)]
   exact cIf (fun h2 => k2 hk (by omega) (by omega)) fun h2 => adds_S2 h hl hk (by omega) (by omega) (by omega) (k3 hk (by omega) (by omega))
theorem take_B {l : Tb} {k : K4} {n : Int} (h : BInv l) (hl : l.length ≤ 999999) (k1 : isB k = false ∨ n < 0 → Q (.i 1) [bK l]) (k2 : isB k = true → 0 ≤ n → zag k l < n → Q (.i 7) [bK l])
 (k3 : isB k = true → 0 ≤ n → n ≤ zag k l → Q (.i 0) [bK (zhx k (zag k l + -n) l)]) : PRun Tryz.prog 108 [bK l] [.r 0 0, kV k, .i n] Q := by
 refine S108 (isB_S ?_)
 rw [zci]
 cases hk : isB k with
 | false => exact k1 (.inl hk)
 | true =>
   have hd := zxm hk
   have hv := h.val k
   have ht := h.top k.d
   refine cIf (fun h1 => k1 (.inr h1)) fun h1 => qty_S h.srt (by omega) ?_
   show (bif decide (n > zag k l) then _ else _ : Prop)
   refine cIf (fun h2 => k2 hk (by omega) (by omega)) fun h2 => ?_
   rw [w64 (by omega) (by omega), Int.zero_sub]
   exact adds_S2 h hl hk (by omega) (by omega) (by omega) (k3 hk (by omega) (by omega))
end
section
set_option maxRecDepth 100000
theorem z0z : Tryz.prog.follows .mixedOrders = true := by kernel_rfl
theorem S88 {l : List (List U)} {types : Int} {Q : V → Mem → Prop} (hh : ∃ (I1 : Int → Int → Prop) (f1 : Int → Int → Nat), I1 0 0 ∧ (∀ x1 : Int, ∀ x2 : Int, I1 x1 x2 → (bif decide (x2 < (z15 l : Int)) then elL l x2 (fun r1 => dI .i64 (ug r1 0) (fun x3 => dI .i64 (ug r1 1) (fun x4 => (bif decide (x3 ≤ x1) then Q (.i 1) [] else (bif decide (x3 > types) then Q (.i 1) [] else (bif decide (x4 < 1) then Q (.i 1) [] else (bif decide (x4 > 1125899906842624) then Q (.i 1) [] else I1 x3 (z13 .i64 (x2 + 1)) ∧ f1 x3 (z13 .i64 (x2 + 1)) < f1 x1 x2))))))) else (bif decide ((z15 l : Int) > 8) then Q (.i 1) [] else Q (.i 0) [])))) : PRun Tryz.prog 88 [] [.l 2 l, .i types] Q :=
 zak z0z Tryz.func88 (by kernel_rfl) (H := ⟨[((88, 3, 0), ⟨[(5, .I), (10, .I)], []⟩)], [], [], [], [], false, 64, KN.no, false, SP.no⟩) (n := 2) (by kernel_rfl) hh
theorem S64 {a : List (List U)} {b : List (List U)} {Q : V → Mem → Prop} (hh : bif (z15 a : Int) != (z15 b : Int) then Q (.u (.b false)) [] else ∃ (I1 : Int → Prop) (f1 : Int → Nat), I1 0 ∧ (∀ x1 : Int, I1 x1 → (bif decide (x1 < (z15 a : Int)) then (bif decide (x1 < (z15 b : Int)) then elL a x1 (fun r1 => dI .i64 (ug r1 0) (fun x2 => dI .i64 (ug r1 1) (fun x3 => elL b x1 (fun r2 => dI .i64 (ug r2 0) (fun x4 => dI .i64 (ug r2 1) (fun x5 => (bif !(x2 == x4 && (x3 == x5 && true)) then Q (.u (.b false)) [] else I1 (z13 .i64 (x1 + 1)) ∧ f1 (z13 .i64 (x1 + 1)) < f1 x1))))))) else Q (.u (.b true)) []) else Q (.u (.b true)) []))) : PRun Tryz.prog 64 [] [.l 2 a, .l 2 b] Q :=
 zak z0z Tryz.func64 (by kernel_rfl) (H := ⟨[((64, 4, 0), ⟨[(5, .I)], []⟩)], [], [], [], [], false, 64, KN.no, false, SP.no⟩) (n := 2) (by kernel_rfl) hh
theorem S106 {a : Int} {b : Int} {c : Int} {up : Bool} {Q : V → Mem → Prop} (hh : bif decide (a < 0) then Q (.t [.i 0, .i 1]) [] else (bif decide (b < 0) then Q (.t [.i 0, .i 1]) [] else (bif decide (c < 1) then Q (.t [.i 0, .i 1]) [] else PRun Tryz.prog 151 [] [.u (.i .u64 (z13 .u64 a)), .u (.i .u64 (z13 .u64 b))] (post [.one (.i .u64), .one (.i .u64)] [] (fun x1 x2 => (bif decide (x1 ≥ z13 .u64 c) then Q (.t [.i 0, .i 5]) [] else PRun Tryz.prog 152 [] [.u (.i .u64 x1), .u (.i .u64 x2), .u (.i .u64 (z13 .u64 c))] (post [.one (.i .u64), .one (.i .u64)] [] (fun x3 x4 => (bif up then (bif decide (x4 > 0) then (bif decide (x3 ≤ 9223372036854775807) then (bif decide (z13 .u64 (x3 + 1) > 9223372036854775807) then Q (.t [.i 0, .i 5]) [] else Q (.t [.i (z13 .i64 (z13 .u64 (x3 + 1))), .i 0]) []) else (bif decide (x3 > 9223372036854775807) then Q (.t [.i 0, .i 5]) [] else Q (.t [.i (z13 .i64 x3), .i 0]) [])) else (bif decide (x3 > 9223372036854775807) then Q (.t [.i 0, .i 5]) [] else Q (.t [.i (z13 .i64 x3), .i 0]) [])) else (bif decide (x3 > 9223372036854775807) then Q (.t [.i 0, .i 5]) [] else Q (.t [.i (z13 .i64 x3), .i 0]) []) : Prop))) : Prop)))))) : PRun Tryz.prog 106 [] [.i a, .i b, .i c, .u (.b up)] Q :=
 zak z0z Tryz.func106 (by kernel_rfl) (H := ⟨[], [], [], [], [], false, 64, KN.no, false, SP.no⟩) (n := 2) (by kernel_rfl) hh
theorem S105 {n : Int} {Q : V → Mem → Prop} (hh : bif decide (n ≥ 0) then Q (.u (.b (decide (n ≤ 1152921504606846976)))) [] else Q (.u (.b false)) []) : PRun Tryz.prog 105 [] [.i n] Q :=
 zak z0z Tryz.func105 (by kernel_rfl) (H := ⟨[], [], [], [], [], false, 64, KN.no, false, SP.no⟩) (n := 2) (by kernel_rfl) hh
theorem S184 {l : List (List U)} {Q : V → Mem → Prop} (hh : ∃ (I1 : Int → Prop) (f1 : Int → Nat), I1 0 ∧ (∀ x1 : Int, I1 x1 → (bif decide (x1 < (z15 l : Int)) then elL l x1 (fun r1 => dI .i64 (ug r1 0) (fun x2 => dI .i64 (ug r1 1) (fun x3 => dI .i64 (ug r1 2) (fun x4 => (bif decide (x2 < x3) then Q (.u (.b false)) [] else (bif decide (x2 > x4) then Q (.u (.b false)) [] else I1 (z13 .i64 (x1 + 1)) ∧ f1 (z13 .i64 (x1 + 1)) < f1 x1)))))) else Q (.u (.b true)) []))) : PRun Tryz.prog 184 [] [.l 3 l] Q :=
 zak z0z Tryz.func184 (by kernel_rfl) (H := ⟨[((184, 2, 0), ⟨[(7, .I)], []⟩)], [], [], [], [], false, 64, KN.no, false, SP.no⟩) (n := 2) (by kernel_rfl) hh
end
section
variable {Q : V → Mem → Prop}
def eS (x : Stk) : List U := [.n x.1, .n x.2]
abbrev Bnd := Int × Int × Int
def eF (x : Bnd) : List U := [.n x.1, .n x.2.1, .n x.2.2]
def inn (n a b : Int) : Bool := decide (a ≤ n ∧ n ≤ b)
section
variable {n a b : Int}
end
def inAll (l : List Bnd) : Bool := l.all fun x => inn x.1 x.2.1 x.2.2
theorem fits_S {L : List Bnd} (hL : L.length ≤ 1000000) (k : Q (.u (.b (inAll L))) []) : PRun Tryz.prog 184 [] [.l 3 (L.map eF)] Q := by
 refine S184 ⟨SufI L fun l => Q (.u (.b (inAll l))) [], zmv L, .zero (by omega) k, ?_⟩
 rintro x ⟨_ | ⟨a, l⟩, s, k⟩
 · rw [s.d0]; exact k
 · simp only [s.d1, s.el, eF, ug0, ugs, zcs, cond_true]
   rw [show inAll (a :: l) = (inn a.1 a.2.1 a.2.2 && inAll l) from rfl] at k
   refine cIf (fun h1 => ?_) fun h1 => cIf (fun h2 => ?_) fun h2 => s.step ?_
   iterate 2 rwa [show inn a.1 a.2.1 a.2.2 = false from decide_eq_false (by omega)] at k
   rwa [show inn a.1 a.2.1 a.2.2 = true from decide_eq_true (by omega)] at k
def zwh (types : Int) : Int → List Stk → Bool
 | _, [] => true
 | last, s :: l => decide (last < s.1 ∧ s.1 ≤ types ∧ 1 ≤ s.2 ∧ s.2 ≤ 1125899906842624) && zwh types s.1 l
def zhv (l : List Stk) (types : Int) : Int := if zwh types 0 l = true ∧ l.length ≤ 8 then 0 else 1
theorem zg7 {L : List Stk} {types : Int} (hL : L.length ≤ 1000000) (k : Q (.i (zhv L types)) []) : PRun Tryz.prog 88 [] [.l 2 (L.map eS), .i types] Q := by
 refine S88 ⟨fun last x => SufI L (fun l => zwh types 0 L = zwh types last l) x, fun _ => zmv L, .zero (by omega) rfl, ?_⟩
 rintro last x ⟨_ | ⟨a, l⟩, s, k2⟩
 · rw [s.d0, z2d]
   refine cIf (fun h => ?_) fun h => ?_
   · simpa [zhv, show ¬ L.length ≤ 8 by omega] using k
   · simpa [zhv, k2, zwh, show L.length ≤ 8 by omega] using k
 · simp only [s.d1, s.el, eS, ug0, ugs, zcs, cond_true]
   have bad : zwh types last (a :: l) = false → Q (.i 1) [] := fun h => by simpa [zhv, k2, h] using k
   refine cIf (fun h => ?_) fun h1 => cIf (fun h => ?_) fun h2 => cIf (fun h => ?_) fun h3 => cIf (fun h => ?_) fun h4 => s.step ?_
   iterate 4 exact bad (by simp only [zwh, Bool.and_eq_false_iff, decide_eq_false_iff_not]; omega)
   rw [k2, zwh, decide_eq_true (by omega), z4l]
end
section
set_option maxRecDepth 100000
theorem zvn : Tryz.prog.follows .mixedOrders = true := by kernel_rfl
theorem S107p {b_0 : List (List U)} {b_1 : List Int} {x_0 : Int} {x_1 : Int} {x_2 : Int} {x_3 : Int} {l : List (List U)} {Q : V → Mem → Prop} (hh : PRun Tryz.prog 84 [] [.a [.i x_0, .i x_1, .i x_2, .i 1]] (post [.B] [] (fun b1 => (bif !b1 then Q (.i 1) [.c [.l 5 b_0, .n .i64 33 b_1]] else PRun Tryz.prog 88 [] [.l 2 l, .i 32] (post [.I] [] (fun x1 => (bif x1 != 0 then Q (.i 1) [.c [.l 5 b_0, .n .i64 33 b_1]] else ∃ (I1 : Int → List (List U) → List Int → Prop) (f1 : Int → List (List U) → List Int → Nat), I1 0 b_0 b_1 ∧ (∀ x2 : Int, ∀ l1 : List (List U), ∀ a1 : List Int, I1 x2 l1 a1 → (bif decide (x2 < (z15 l : Int)) then elL l x2 (fun r1 => dI .i64 (ug r1 0) (fun x3 => dI .i64 (ug r1 1) (fun x4 => PRun Tryz.prog 59 [.c [.l 5 l1, .n .i64 33 a1]] [.r 0 0, .a [.i x_0, .i x_1, .i x_2, .i x3], .i x4] (post [.I] [.c [.l 5, .n 33]] (fun x5 l2 a2 => (bif x5 != 0 then Q (.i x5) [.c [.l 5 b_0, .n .i64 33 b_1]] else I1 (z13 .i64 (x2 + 1)) l2 a2 ∧ f1 (z13 .i64 (x2 + 1)) l2 a2 < f1 x2 l1 a1 : Prop)))))) else Q (.i 0) [.c [.l 5 l1, .n .i64 33 a1]])) : Prop))) : Prop)))) : PRun Tryz.prog 107 [.c [.l 5 b_0, .n .i64 33 b_1]] [.r 0 0, .a [.i x_0, .i x_1, .i x_2, .i x_3], .l 2 l, .f 59 [] []] Q :=
 zak zvn Tryz.func107 (by kernel_rfl) (H := ⟨[((107, 5, 5), ⟨[(31, .I)], [(0, .c [.l 5, .n 33])]⟩)], [], [153], [], [], false, 64, KN.no, false, SP.no⟩) (n := 3) (by kernel_rfl) hh
theorem S107t {b_0 : List (List U)} {b_1 : List Int} {x_0 : Int} {x_1 : Int} {x_2 : Int} {x_3 : Int} {l : List (List U)} {Q : V → Mem → Prop} (hh : PRun Tryz.prog 84 [] [.a [.i x_0, .i x_1, .i x_2, .i 1]] (post [.B] [] (fun b1 => (bif !b1 then Q (.i 1) [.c [.l 5 b_0, .n .i64 33 b_1]] else PRun Tryz.prog 88 [] [.l 2 l, .i 32] (post [.I] [] (fun x1 => (bif x1 != 0 then Q (.i 1) [.c [.l 5 b_0, .n .i64 33 b_1]] else ∃ (I1 : Int → List (List U) → List Int → Prop) (f1 : Int → List (List U) → List Int → Nat), I1 0 b_0 b_1 ∧ (∀ x2 : Int, ∀ l1 : List (List U), ∀ a1 : List Int, I1 x2 l1 a1 → (bif decide (x2 < (z15 l : Int)) then elL l x2 (fun r1 => dI .i64 (ug r1 0) (fun x3 => dI .i64 (ug r1 1) (fun x4 => PRun Tryz.prog 108 [.c [.l 5 l1, .n .i64 33 a1]] [.r 0 0, .a [.i x_0, .i x_1, .i x_2, .i x3], .i x4] (post [.I] [.c [.l 5, .n 33]] (fun x5 l2 a2 => (bif x5 != 0 then Q (.i x5) [.c [.l 5 b_0, .n .i64 33 b_1]] else I1 (z13 .i64 (x2 + 1)) l2 a2 ∧ f1 (z13 .i64 (x2 + 1)) l2 a2 < f1 x2 l1 a1 : Prop)))))) else Q (.i 0) [.c [.l 5 l1, .n .i64 33 a1]])) : Prop))) : Prop)))) : PRun Tryz.prog 107 [.c [.l 5 b_0, .n .i64 33 b_1]] [.r 0 0, .a [.i x_0, .i x_1, .i x_2, .i x_3], .l 2 l, .f 108 [] []] Q :=
 zak zvn Tryz.func107 (by kernel_rfl) (H := ⟨[((107, 5, 5), ⟨[(31, .I)], [(0, .c [.l 5, .n 33])]⟩)], [], [153], [], [], false, 64, KN.no, false, SP.no⟩) (n := 3) (by kernel_rfl) hh
theorem S53 {b_0 : List (List U)} {b_1 : List Int} {x_0 : Int} {x_1 : Int} {x_2 : Int} {x_3 : Int} {l : List (List U)} {Q : V → Mem → Prop} (hh : PRun Tryz.prog 107 [.c [.l 5 b_0, .n .i64 33 b_1]] [.r 0 0, .a [.i x_0, .i x_1, .i x_2, .i x_3], .l 2 l, .f 59 [] []] (post [.I] [.c [.l 5, .n 33]] (fun x1 l1 a1 => (Q (.i x1) [.c [.l 5 l1, .n .i64 33 a1]] : Prop)))) : PRun Tryz.prog 53 [.c [.l 5 b_0, .n .i64 33 b_1]] [.r 0 0, .a [.i x_0, .i x_1, .i x_2, .i x_3], .l 2 l] Q :=
 zak zvn Tryz.func53 (by kernel_rfl) (H := ⟨[], [], [], [], [], false, 64, KN.no, false, SP.no⟩) (n := 2) (by kernel_rfl) hh
theorem S52 {b_0 : List (List U)} {b_1 : List Int} {x_0 : Int} {x_1 : Int} {x_2 : Int} {x_3 : Int} {l : List (List U)} {Q : V → Mem → Prop} (hh : PRun Tryz.prog 107 [.c [.l 5 b_0, .n .i64 33 b_1]] [.r 0 0, .a [.i x_0, .i x_1, .i x_2, .i x_3], .l 2 l, .f 108 [] []] (post [.I] [.c [.l 5, .n 33]] (fun x1 l1 a1 => (Q (.i x1) [.c [.l 5 l1, .n .i64 33 a1]] : Prop)))) : PRun Tryz.prog 52 [.c [.l 5 b_0, .n .i64 33 b_1]] [.r 0 0, .a [.i x_0, .i x_1, .i x_2, .i x_3], .l 2 l] Q :=
 zak zvn Tryz.func52 (by kernel_rfl) (H := ⟨[], [], [], [], [], false, 64, KN.no, false, SP.no⟩) (n := 2) (by kernel_rfl) hh
end
section
variable {Q : V → Mem → Prop}
theorem zex {l : Tb} {d : Int} (k1 : 1 ≤ d → d ≤ 32 → Q (.i (tyQ d l)) [bK l]) (k2 : d < 1 ∨ 32 < d → Q (.i 0) [bK l]) : PRun Tryz.prog 31 [bK l] [.r 0 0, .i d] Q := by
 refine S31 (cIf (fun h1 => cNot (cIf (fun h2 => ⟨by omega, by omega, ?_⟩) fun h2 => k2 (by omega))) fun h1 => k2 (by omega))
 rw [zav (r := tyQ d l) (by omega) (zgt l (by omega))]
 exact k1 (by omega) (by omega)
theorem blist_B {l : Tb} (hl : l.length ≤ 999999) (K : Q (.l 5 (l.map eT)) [bK l]) : PRun Tryz.prog 77 [bK l] [.r 0 0] Q := by
 have hlen : ((l.map eT).length : Int) = (l.length : Int) := by rw [z2d]
 refine S77 ⟨fun x o => ∃ i : Nat, x = (i : Int) ∧ i ≤ l.length ∧ o = (l.take i).map eT, fun x o => (l.length - x).toNat, ⟨0, rfl, z3j _, rfl⟩, ?_⟩
 rintro _ _ ⟨i, rfl, hi, rfl⟩
 rw [hlen]
 refine cIf (fun h => ?_) fun h => ?_
 · have hlt : i < l.length := by omega
   rw [zav (r := eT l[i]) (by omega) (by simp [hlt])]
   simp only [eT, ug0, ugs, zcs]
   have e1 : z13 .i64 ((i : Int) + 1) = ((i + 1 : Nat) : Int) := by rw [w64 (by omega) (by omega)]; omega
   rw [e1]
   have e2 : (l.take i).map eT ++ [eT l[i]] = (l.take (i + 1)).map eT := by
    rw [z6m hlt, z28]
    rfl
   refine ⟨?_, ⟨i + 1, rfl, by omega, e2⟩, by omega⟩
   unfold zbo
   simp
   omega
 · have : i = l.length := by omega
   subst this
   rw [z4r]
   exact K
abbrev bin (x : K4) (t : Int) : K4 := ⟨x.a, x.b, x.c, t⟩
def zmb (x : K4) : List Stk → Tb → Option Tb
 | [], l => some l
 | s :: r, l => if tyQ s.1 l + s.2 ≤ 1125899906842624 then zmb x r (zhx (bin x s.1) (zag (bin x s.1) l + s.2) l) else none
def zct (x : K4) : List Stk → Tb → Option Tb
 | [], l => some l
 | s :: r, l => if s.2 ≤ zag (bin x s.1) l then zct x r (zhx (bin x s.1) (zag (bin x s.1) l + -s.2) l) else none
theorem zhu {L : List Stk} {types : Int} (h : zhv L types = 0) : ∀ s ∈ L, 1 ≤ s.1 ∧ s.1 ≤ types ∧ 1 ≤ s.2 ∧ s.2 ≤ 1125899906842624 := by
 have h1 : zwh types 0 L = true := by
  unfold zhv at h
  split at h
  · rename_i hh; exact hh.1
  · cases h
 have : ∀ (l : List Stk) (last : Int), 0 ≤ last → zwh types last l = true → ∀ s ∈ l, 1 ≤ s.1 ∧ s.1 ≤ types ∧ 1 ≤ s.2 ∧ s.2 ≤ 1125899906842624 := by
  intro l
  induction l with
  | nil => intro _ _ _ s hs; simp at hs
  | cons a l ih =>
    intro last h0 hc s hs
    simp only [zwh, z17, decide_eq_true_eq] at hc
    rcases z2e.1 hs with rfl | hs
    · omega
    · exact ih a.1 (by omega) hc.2 s hs
 exact this L 0 (z2v _) h1
theorem zii {x : K4} {t : Int} (h : isB (bin x 1) = true) (ht : 1 ≤ t ∧ t ≤ 32) : isB (bin x t) = true := by
 simp only [isB, z17, decide_eq_true_eq] at h ⊢
 omega
theorem zu8 {l : Tb} {x : K4} {L : List Stk} (h : BInv l) (hl : l.length ≤ 900000) (hL : L.length ≤ 1000)
 (k1 : isB (bin x 1) = false ∨ zhv L 32 ≠ 0 → Q (.i 1) [bK l]) (k2 : isB (bin x 1) = true → zhv L 32 = 0 → zmb x L l = none → Q (.i 5) [bK l])
 (k3 : ∀ l', isB (bin x 1) = true → zhv L 32 = 0 → zmb x L l = some l' → BInv l' → l'.length ≤ l.length + L.length → Q (.i 0) [bK l']) :
 PRun Tryz.prog 53 [bK l] [.r 0 0, kV x, .l 2 (L.map eS)] Q := by
 refine S53 (S107p (isB_S (k := bin x 1) ?_))
 rw [zci]
 cases hx : isB (bin x 1) with
 | false => exact k1 (.inl hx)
 | true =>
   show PRun _ _ _ _ _
   refine zg7 (by omega) ?_
   rw [zax]
   by_cases hc : zhv L 32 = 0
   · rw [hc]
     have hm := zhu hc
     refine ⟨fun i rows a => SufI L (fun r => (∀ s ∈ r, s ∈ L) ∧ ∃ lt, rows = lt.map eT ∧ a = zgb lt ∧ BInv lt ∧ lt.length + r.length ≤ l.length + L.length ∧ zmb x r lt = zmb x L l) i, fun i _ _ => zmv L i, .zero (by omega) ⟨fun s hs => hs, l, rfl, rfl, h, z2r _, rfl⟩, ?_⟩
     rintro i _ _ ⟨r, s, hsub, lt, rfl, rfl, hi, hln, hp⟩
     cases r with
     | nil =>
       rw [s.d0]
       exact k3 lt hx hc hp.symm hi (by simpa using hln)
     | cons q r =>
       simp only [z2o] at hln
       have hq := hm q (hsub q (by simp))
       simp only [s.d1, s.el, eS, ug0, ugs, zcs, cond_true]
       refine put_B (k := bin x q.1) hi (by omega) (fun hb => ?_) (fun _ _ hb => ?_) fun _ _ hb => ?_
       · rw [zii hx (by omega)] at hb; rcases hb with hb | hb
         · cases hb
         · omega
       · have e : zmb x L l = none := by rw [← hp]; simp only [zmb]; rw [if_neg (by simp only at hb; omega)]
         exact k2 hx hc e
       · refine s.step ?_
         refine ⟨fun t ht => hsub t (by simp [ht]), _, rfl, rfl, hi.set (zii hx (by omega)) (by have := (hi.val (bin x q.1)).1; omega) hb, by have := zpi (k := bin x q.1) (v := zag (bin x q.1) lt + q.2) (l := lt); omega, ?_⟩
         rw [← hp]
         simp only [zmb]
         rw [if_pos hb]
   · have e : (zhv L 32 != 0) = true := by simpa using hc
     rw [e]
     exact k1 (.inr hc)
end
section
variable {Q : V → Mem → Prop}
theorem zqf {l : Tb} {x : K4} {L : List Stk} (h : BInv l) (hl : l.length ≤ 900000) (hL : L.length ≤ 1000)
 (k1 : isB (bin x 1) = false ∨ zhv L 32 ≠ 0 → Q (.i 1) [bK l]) (k2 : isB (bin x 1) = true → zhv L 32 = 0 → zct x L l = none → Q (.i 7) [bK l])
 (k3 : ∀ l', isB (bin x 1) = true → zhv L 32 = 0 → zct x L l = some l' → BInv l' → l'.length ≤ l.length + L.length → Q (.i 0) [bK l']) :
 PRun Tryz.prog 52 [bK l] [.r 0 0, kV x, .l 2 (L.map eS)] Q := by
 refine S52 (S107t (isB_S (k := bin x 1) ?_))
 rw [zci]
 cases hx : isB (bin x 1) with
 | false => exact k1 (.inl hx)
 | true =>
   show PRun _ _ _ _ _
   refine zg7 (by omega) ?_
   rw [zax]
   by_cases hc : zhv L 32 = 0
   · rw [hc]
     have hm := zhu hc
     refine ⟨fun i rows a => SufI L (fun r => (∀ s ∈ r, s ∈ L) ∧ ∃ lt, rows = lt.map eT ∧ a = zgb lt ∧ BInv lt ∧ lt.length + r.length ≤ l.length + L.length ∧ zct x r lt = zct x L l) i, fun i _ _ => zmv L i, .zero (by omega) ⟨fun s hs => hs, l, rfl, rfl, h, z2r _, rfl⟩, ?_⟩
     rintro i _ _ ⟨r, s, hsub, lt, rfl, rfl, hi, hln, hp⟩
     cases r with
     | nil =>
       rw [s.d0]
       exact k3 lt hx hc hp.symm hi (by simpa using hln)
     | cons q r =>
       simp only [z2o] at hln
       have hq := hm q (hsub q (by simp))
       simp only [s.d1, s.el, eS, ug0, ugs, zcs, cond_true]
       refine take_B (k := bin x q.1) hi (by omega) (fun hb => ?_) (fun _ _ hb => ?_) fun _ _ hb => ?_
       · rw [zii hx (by omega)] at hb; rcases hb with hb | hb
         · cases hb
         · omega
       · have e : zct x L l = none := by rw [← hp]; simp only [zct]; rw [if_neg (by have hb' : zag (bin x q.1) lt < q.2 := hb; omega)]
         exact k2 hx hc e
       · refine s.step ?_
         refine ⟨fun t ht => hsub t (by simp [ht]), _, rfl, rfl, hi.set (zii hx (by omega)) (by have hb' : q.2 ≤ zag ⟨x.a, x.b, x.c, q.1⟩ lt := hb; omega) (by have := hi.top q.1; simp only; omega), by have := zpi (k := bin x q.1) (v := zag (bin x q.1) lt + -q.2) (l := lt); omega, ?_⟩
         rw [← hp]
         simp only [zct]
         rw [if_pos hb]
   · have e : (zhv L 32 != 0) = true := by simpa using hc
     rw [e]
     exact k1 (.inr hc)
end
section
variable {Q : V → Mem → Prop}
def accs (l : Tb) : List (List U) := l.map fun r => [.n r.1.a, .n r.2]
theorem plist_S {l : Tb} {n : Int} (hl : l.length ≤ 999999) (k : Q (.l 2 (accs l)) [pC l n]) : PRun Tryz.prog 78 [pC l n] [.r 0 0] Q := by
 have hlen : ((l.map eT).length : Int) = (l.length : Int) := by rw [z2d]
 refine S78 ⟨fun x o => ∃ i : Nat, x = (i : Int) ∧ i ≤ l.length ∧ o = accs (l.take i), fun x o => (l.length - x).toNat, ⟨0, rfl, z3j _, rfl⟩, ?_⟩
 rintro _ _ ⟨i, rfl, hi, rfl⟩
 rw [hlen]
 refine cIf (fun h => ?_) fun h => ?_
 · have hlt : i < l.length := by omega
   rw [zav (r := eT l[i]) (by omega) (by simp [hlt])]
   simp only [eT, ug0, ugs, zcs]
   have e1 : z13 .i64 ((i : Int) + 1) = ((i + 1 : Nat) : Int) := by rw [w64 (by omega) (by omega)]; omega
   rw [e1]
   have e2 : accs (l.take i) ++ [[.n l[i].1.a, .n l[i].2]] = accs (l.take (i + 1)) := by
    unfold accs
    rw [z6m hlt, z28]
    rfl
   refine ⟨?_, ⟨i + 1, rfl, by omega, e2⟩, by omega⟩
   unfold zbo accs
   simp
   omega
 · have : i = l.length := by omega
   subst this
   rw [z4r]
   exact k
structure PInv (l : Tb) (n : Int) : Prop where
 srt : Srt l
 key : ∀ r ∈ l, r.1 = oK r.1.a ∧ 0 ≤ r.1.a ∧ r.1.a ≤ 1099511627776 ∧ 0 ≤ r.2
 sum : n = zx6 l
 top : n ≤ 1152921504606846976
theorem zsx : ∀ {l : Tb}, (∀ r ∈ l, 0 ≤ r.2) → 0 ≤ zx6 l
 | [], _ => z2v _
 | r :: l, h => by
   have h1 := h r z2p
   have h2 := zsx (l := l) fun s hs => h s (z2j _ hs)
   simp only [zx6]; omega
theorem zyw {k : K4} : ∀ {l : Tb}, (∀ r ∈ l, 0 ≤ r.2) → 0 ≤ zag k l ∧ zag k l ≤ zx6 l
 | [], _ => ⟨z2v _, z2v _⟩
 | r :: l, h => by
   have h1 := h r z2p
   have h3 := zsx (l := l) fun s hs => h s (z2j _ hs)
   have h2 := zyw (k := k) (l := l) fun s hs => h s (z2j _ hs)
   simp only [zag, zaq, zx6] at *
   by_cases e : r.1 = k
   · rw [if_pos e, z3b]; omega
   · rw [if_neg e]; omega
theorem PInv.val {l : Tb} {n : Int} (h : PInv l n) (o : Int) : 0 ≤ zag (oK o) l ∧ zag (oK o) l ≤ n := by
 have := zyw (k := oK o) (l := l) fun r hr => (h.key r hr).2.2.2
 rw [h.sum]; exact this
theorem PInv.nn {l : Tb} {n : Int} (h : PInv l n) : 0 ≤ n := by rw [h.sum]; exact zsx fun r hr => (h.key r hr).2.2.2
theorem PInv.put {l : Tb} {n o v : Int} (h : PInv l n) (ho : 0 ≤ o ∧ o ≤ 1099511627776) (hv : 0 ≤ v) (ht : n + v - zag (oK o) l ≤ 1152921504606846976) : PInv (zeo (oK o) v l) (n + v - zag (oK o) l) where
 srt := zeb h.srt
 key r hr := by
  rcases zjb hr with e | e
  · subst e; exact ⟨rfl, ho.1, ho.2, hv⟩
  · exact h.key r e
 sum := by rw [zur h.srt, h.sum]
 top := ht
end
section
set_option maxRecDepth 100000
theorem ztr : Tryz.prog.follows .mixedOrders = true := by kernel_rfl
theorem S92 {p_0 : List (List U)} {p_1 : Int} {owner : Int} {n : Int} {Q : V → Mem → Prop} (hh : PRun Tryz.prog 10 [.c [.l 5 p_0, .i p_1]] [.r 0 0, .i owner] (post [.I, .I] [.c [.l 5, .i .i64]] (fun x1 x2 l1 x3 => (bif x2 != 0 then Q (.i x2) [.c [.l 5 l1, .i x3]] else (bif decide (n < 0) then Q (.i 1) [.c [.l 5 l1, .i x3]] else (bif decide (n > x1) then Q (.i 6) [.c [.l 5 l1, .i x3]] else Q (.i 0) [.c [.l 5 l1, .i x3]])) : Prop)))) : PRun Tryz.prog 92 [.c [.l 5 p_0, .i p_1]] [.r 0 0, .i owner, .i n] Q :=
 zak ztr Tryz.func92 (by kernel_rfl) (H := ⟨[], [], [], [], [], false, 64, KN.no, false, SP.no⟩) (n := 2) (by kernel_rfl) hh
theorem S40 {p_0 : List (List U)} {p_1 : Int} {from0 : Int} {to0 : Int} {n : Int} {Q : V → Mem → Prop} (hh : ∃ (I1 : Int → List (List U) → Int → Prop) (f1 : Int → List (List U) → Int → Nat), I1 0 p_0 p_1 ∧ (∀ x1 : Int, ∀ l1 : List (List U), ∀ x2 : Int, I1 x1 l1 x2 → (bif decide (x1 < 2) then 0 ≤ x1 ∧ x1 < 2 ∧ (elL ([[.n from0], [.n to0]] : List (List U)) x1 (fun r1 => dI .i64 (ug r1 0) (fun x3 => PRun Tryz.prog 10 [.c [.l 5 l1, .i x2]] [.r 0 0, .i x3] (post [.I, .I] [.c [.l 5, .i .i64]] (fun x4 x5 l2 x6 => (bif x5 != 0 then Q (.i x5) [.c [.l 5 l2, .i x6]] else I1 (z13 .i64 (x1 + 1)) l2 x6 ∧ f1 (z13 .i64 (x1 + 1)) l2 x6 < f1 x1 l1 x2 : Prop)))))) else PRun Tryz.prog 92 [.c [.l 5 l1, .i x2]] [.r 0 0, .i from0, .i n] (post [.I] [.c [.l 5, .i .i64]] (fun x7 l3 x8 => (bif x7 == 0 then PRun Tryz.prog 93 [.c [.l 5 l3, .i x8]] [.r 0 0, .i from0, .i (z13 .i64 (0 - n))] (post [] [.c [.l 5, .i .i64]] (fun l4 x9 => (PRun Tryz.prog 93 [.c [.l 5 l4, .i x9]] [.r 0 0, .i to0, .i n] (post [] [.c [.l 5, .i .i64]] (fun l5 x10 => (Q (.i x7) [.c [.l 5 l5, .i x10]] : Prop))) : Prop))) else Q (.i x7) [.c [.l 5 l3, .i x8]] : Prop)))))) : PRun Tryz.prog 40 [.c [.l 5 p_0, .i p_1]] [.r 0 0, .i from0, .i to0, .i n] Q :=
 zak ztr Tryz.func40 (by kernel_rfl) (H := ⟨[((40, 2, 2), ⟨[(18, .I)], [(0, .c [.l 5, .i .i64])]⟩)], [], [], [], [], false, 64, KN.no, false, SP.no⟩) (n := 2) (by kernel_rfl) hh
theorem S30 {p_0 : List (List U)} {p_1 : Int} {Q : V → Mem → Prop} (hh : Q (.i p_1) [.c [.l 5 p_0, .i p_1]]) : PRun Tryz.prog 30 [.c [.l 5 p_0, .i p_1]] [.r 0 0] Q :=
 zak ztr Tryz.func30 (by kernel_rfl) (H := ⟨[], [], [], [], [], false, 64, KN.no, false, SP.no⟩) (n := 2) (by kernel_rfl) hh
theorem S94 {what : Int} {id : Int} {Q : V → Mem → Prop} (hh : PRun Tryz.prog 141 [] [.i what] (post [.I] [] (fun x1 => (bif x1 == 0 then Q (.t [.i 0, .i 1]) [] else (bif decide (id < 1) then Q (.t [.i 0, .i 1]) [] else (bif decide (id ≥ 1048576) then Q (.t [.i 0, .i 1]) [] else Q (.t [.i (z13 .i64 (x1 + id)), .i 0]) [])) : Prop)))) : PRun Tryz.prog 94 [] [.i what, .i id] Q :=
 zak ztr Tryz.func94 (by kernel_rfl) (H := ⟨[], [], [], [], [], false, 64, KN.no, false, SP.no⟩) (n := 2) (by kernel_rfl) hh
theorem S41 {p_0 : List (List U)} {p_1 : Int} {from0 : Int} {id : Int} {n : Int} {Q : V → Mem → Prop} (hh : PRun Tryz.prog 94 [] [.i 2, .i id] (post [.I, .I] [] (fun x1 x2 => (bif x2 != 0 then Q (.i x2) [.c [.l 5 p_0, .i p_1]] else PRun Tryz.prog 10 [.c [.l 5 p_0, .i p_1]] [.r 0 0, .i from0] (post [.I, .I] [.c [.l 5, .i .i64]] (fun x3 x4 l1 x5 => (bif x4 != 0 then Q (.i x4) [.c [.l 5 l1, .i x5]] else (bif decide (n < 0) then Q (.i 1) [.c [.l 5 l1, .i x5]] else (bif decide (x3 < n) then Q (.i 6) [.c [.l 5 l1, .i x5]] else PRun Tryz.prog 82 [.c [.l 5 l1, .i x5]] [.r 0 0, .i x1] (post [.I] [.c [.l 5, .i .i64]] (fun x6 l2 x7 => (PRun Tryz.prog 40 [.c [.l 5 l2, .i x7]] [.r 0 0, .i from0, .i x1, .i n] (post [.I] [.c [.l 5, .i .i64]] (fun x8 l3 x9 => (Q (.i x8) [.c [.l 5 l3, .i x9]] : Prop))) : Prop))))) : Prop))) : Prop)))) : PRun Tryz.prog 41 [.c [.l 5 p_0, .i p_1]] [.r 0 0, .i from0, .i id, .i n] Q :=
 zak ztr Tryz.func41 (by kernel_rfl) (H := ⟨[], [], [], [], [], false, 64, KN.no, false, SP.no⟩) (n := 2) (by kernel_rfl) hh
theorem S111 {p_0 : List (List U)} {p_1 : Int} {id : Int} {l : List (List U)} {Q : V → Mem → Prop} (hh : PRun Tryz.prog 94 [] [.i 2, .i id] (post [.I, .I] [] (fun x1 x2 => (bif x2 != 0 then Q (.i 1) [.c [.l 5 p_0, .i p_1]] else PRun Tryz.prog 156 [.c [.l 5 p_0, .i p_1]] [.r 0 0, .i id] (post [.I] [.c [.l 5, .i .i64]] (fun x3 l1 x4 => ∃ (I1 : Int → Int → Prop) (f1 : Int → Int → Nat), I1 x3 0 ∧ (∀ x5 : Int, ∀ x6 : Int, I1 x5 x6 → (bif decide (x6 < (z15 l : Int)) then elL l x6 (fun r1 => dI .i64 (ug r1 0) (fun x7 => dI .i64 (ug r1 1) (fun x8 => dI .i64 (ug r1 2) (fun x9 => (bif x7 != 0 then Q (.i 1) [.c [.l 5 l1, .i x4]] else (bif decide (x9 < 0) then Q (.i 1) [.c [.l 5 l1, .i x4]] else (bif decide (x9 > x5) then Q (.i 1) [.c [.l 5 l1, .i x4]] else I1 (z13 .i64 (x5 - x9)) (z13 .i64 (x6 + 1)) ∧ f1 (z13 .i64 (x5 - x9)) (z13 .i64 (x6 + 1)) < f1 x5 x6))))))) else (bif x5 != 0 then Q (.i 1) [.c [.l 5 l1, .i x4]] else ∃ (I2 : Int → List (List U) → Int → Prop) (f2 : Int → List (List U) → Int → Nat), I2 0 l1 x4 ∧ (∀ x10 : Int, ∀ l2 : List (List U), ∀ x11 : Int, I2 x10 l2 x11 → (bif decide (x10 < (z15 l : Int)) then elL l x10 (fun r2 => dI .i64 (ug r2 0) (fun x12 => dI .i64 (ug r2 1) (fun x13 => dI .i64 (ug r2 2) (fun x14 => PRun Tryz.prog 10 [.c [.l 5 l2, .i x11]] [.r 0 0, .i x13] (post [.I, .I] [.c [.l 5, .i .i64]] (fun x15 x16 l3 x17 => (bif x16 != 0 then Q (.i x16) [.c [.l 5 l3, .i x17]] else I2 (z13 .i64 (x10 + 1)) l3 x17 ∧ f2 (z13 .i64 (x10 + 1)) l3 x17 < f2 x10 l2 x11 : Prop))))))) else ∃ (I3 : Int → List (List U) → Int → Prop) (f3 : Int → List (List U) → Int → Nat), I3 0 l2 x11 ∧ (∀ x18 : Int, ∀ l4 : List (List U), ∀ x19 : Int, I3 x18 l4 x19 → (bif decide (x18 < (z15 l : Int)) then elL l x18 (fun r3 => dI .i64 (ug r3 0) (fun x20 => dI .i64 (ug r3 1) (fun x21 => dI .i64 (ug r3 2) (fun x22 => (bif decide (x22 > 0) then PRun Tryz.prog 40 [.c [.l 5 l4, .i x19]] [.r 0 0, .i x1, .i x21, .i x22] (post [.I] [.c [.l 5, .i .i64]] (fun x23 l5 x24 => (I3 (z13 .i64 (x18 + 1)) l5 x24 ∧ f3 (z13 .i64 (x18 + 1)) l5 x24 < f3 x18 l4 x19 : Prop))) else I3 (z13 .i64 (x18 + 1)) l4 x19 ∧ f3 (z13 .i64 (x18 + 1)) l4 x19 < f3 x18 l4 x19))))) else Q (.i 0) [.c [.l 5 l4, .i x19]]))))))))) : Prop)))) : PRun Tryz.prog 111 [.c [.l 5 p_0, .i p_1]] [.r 0 0, .i id, .l 3 l] Q :=
 zak ztr Tryz.func111 (by kernel_rfl) (H := ⟨[((111, 6, 1), ⟨[(9, .I), (34, .I)], []⟩), ((111, 15, 1), ⟨[(61, .I)], [(0, .c [.l 5, .i .i64])]⟩), ((111, 22, 1), ⟨[(78, .I)], [(0, .c [.l 5, .i .i64])]⟩)], [], [], [], [], false, 64, KN.no, false, SP.no⟩) (n := 2) (by kernel_rfl) hh
theorem S156 {p_0 : List (List U)} {p_1 : Int} {id : Int} {Q : V → Mem → Prop} (hh : PRun Tryz.prog 94 [] [.i 2, .i id] (post [.I, .I] [] (fun x1 x2 => (bif x2 != 0 then Q (.i 0) [.c [.l 5 p_0, .i p_1]] else PRun Tryz.prog 10 [.c [.l 5 p_0, .i p_1]] [.r 0 0, .i x1] (post [.I, .I] [.c [.l 5, .i .i64]] (fun x3 x4 l1 x5 => (Q (.i x3) [.c [.l 5 l1, .i x5]] : Prop))) : Prop)))) : PRun Tryz.prog 156 [.c [.l 5 p_0, .i p_1]] [.r 0 0, .i id] Q :=
 zak ztr Tryz.func156 (by kernel_rfl) (H := ⟨[], [], [], [], [], false, 64, KN.no, false, SP.no⟩) (n := 2) (by kernel_rfl) hh
end
section
variable {Q : V → Mem → Prop}
def zb5 (o : Int) (l : Tb) : Bool := (zaq (oK o) l).isSome
def zkl (o n : Int) (l : Tb) : Int := if zb5 o l then (if n < 0 then 1 else if zag (oK o) l < n then 6 else 0) else 3
def zdi (f t n : Int) (l : Tb) : Int := if zb5 f l && zb5 t l then zkl f n l else 3
def zi6 (f t n : Int) (l : Tb) : Tb := zeo (oK t) (zag (oK t) (zeo (oK f) (zag (oK f) l + -n) l) + n) (zeo (oK f) (zag (oK f) l + -n) l)
theorem znj {o n : Int} {l : Tb} (h : zkl o n l = 0) : zb5 o l = true ∧ 0 ≤ n ∧ n ≤ zag (oK o) l := by
 unfold zkl at h
 split at h
 · rename_i h1
   split at h
   · cases h
   · split at h
     · cases h
     · exact ⟨h1, by omega, by omega⟩
 · cases h
theorem znh {f t n : Int} {l : Tb} (h : zdi f t n l = 0) : zb5 f l = true ∧ zb5 t l = true ∧ 0 ≤ n ∧ n ≤ zag (oK f) l := by
 unfold zdi at h
 split at h
 · rename_i h1
   simp only [z17] at h1
   exact ⟨h1.1, h1.2, (znj h).2⟩
 · cases h
theorem PInv.own {l : Tb} {n o : Int} (h : PInv l n) (ho : zb5 o l = true) : 0 ≤ o ∧ o ≤ 1099511627776 := by
 obtain ⟨v, hv⟩ := z6b.1 ho
 have := h.key _ (zdd hv)
 exact ⟨this.2.1, this.2.2.1⟩
theorem PInv.move {l : Tb} {n0 f t n : Int} (h : PInv l n0) (e : zdi f t n l = 0) : PInv (zi6 f t n l) n0 := by
 obtain ⟨h1, h2, h3, h4⟩ := znh e
 have hv := h.val f
 have p1 : PInv (zeo (oK f) (zag (oK f) l + -n) l) (n0 + -n) := by
  have := h.put (o := f) (v := zag (oK f) l + -n) (h.own h1) (by omega) (by have := h.top; omega)
  rwa [show n0 + (zag (oK f) l + -n) - zag (oK f) l = n0 + -n by omega] at this
 have hv2 := p1.val t
 have := p1.put (o := t) (v := zag (oK t) (zeo (oK f) (zag (oK f) l + -n) l) + n) (h.own h2) (by omega) (by have := h.top; omega)
 rwa [show n0 + -n + (zag (oK t) (zeo (oK f) (zag (oK f) l + -n) l) + n) - zag (oK t) (zeo (oK f) (zag (oK f) l + -n) l) = n0 by omega] at this
theorem zju {k : K4} {v : Int} {l : Tb} (hs : Srt l) (h : (zaq k l).isSome = true) : (zeo k v l).length = l.length := by
 obtain ⟨w, hw⟩ := z6b.1 h
 have hr := (z2a.1 (zec hs hw)).1
 rw [zsz hs, h]
 simp
 omega
theorem zki {f t n : Int} {l : Tb} (hs : Srt l) (e : zdi f t n l = 0) : (zi6 f t n l).length = l.length := by
 obtain ⟨h1, h2, h3, h4⟩ := znh e
 unfold zi6
 rw [zju (zeb hs), zju hs h1]
 rw [zfs _ hs]
 split
 · rfl
 · exact h2
theorem may_S {l : Tb} {n0 o n : Int} (h : PInv l n0) (hl : l.length ≤ 1000000) (k : Q (.i (zkl o n l)) [pC l n0]) : PRun Tryz.prog 92 [pC l n0] [.r 0 0, .i o, .i n] Q := by
 refine S92 (zdj h.srt hl ?_)
 show (bif (if (zaq (oK o) l).isSome = true then (0 : Int) else 3) != 0 then _ else _ : Prop)
 unfold zkl zb5 at k
 by_cases hg : (zaq (oK o) l).isSome = true
 · rw [if_pos hg]
   rw [if_pos hg] at k
   refine cNe (fun h => absurd rfl h) fun _ => cIf (fun h1 => by rwa [if_pos h1] at k) fun h1 => cIf (fun h2 => ?_) fun h2 => ?_
   · rw [if_neg h1, if_pos (show zag (oK o) l < n from h2)] at k; exact k
   · rw [if_neg h1, if_neg (show ¬ zag (oK o) l < n from h2)] at k; exact k
 · rw [if_neg hg]
   rw [if_neg hg] at k
   exact k
theorem z0t {l : Tb} {n0 f t n : Int} (h : PInv l n0) (hl : l.length ≤ 900000) (k1 : zdi f t n l ≠ 0 → Q (.i (zdi f t n l)) [pC l n0]) (k2 : zdi f t n l = 0 → Q (.i 0) [pC (zi6 f t n l) n0]) :
 PRun Tryz.prog 40 [pC l n0] [.r 0 0, .i f, .i t, .i n] Q := by
 refine S40 ⟨fun x l' y => l.map eT = l' ∧ n0 = y ∧ (x = 0 ∨ (x = 1 ∧ zb5 f l = true) ∨ (x = 2 ∧ zb5 f l = true ∧ zb5 t l = true)), fun x _ _ => (2 - x).toNat, ⟨rfl, rfl, .inl rfl⟩, ?_⟩
 rintro x _ _ ⟨rfl, rfl, hx⟩
 have bad : zb5 f l = false ∨ zb5 t l = false → Q (.i 3) [pC l n0] := fun hb => by
  have e : zdi f t n l = 3 := by
   unfold zdi
   rw [if_neg]
   rcases hb with hb | hb <;> simp [hb]
  rw [e] at k1
  exact k1 (by decide)
 rcases hx with rfl | ⟨rfl, hf⟩ | ⟨rfl, hf, ht⟩
 · refine cIf (fun _ => ⟨by decide, by decide, ?_⟩) fun h => absurd (by decide) h
   show PRun _ _ _ _ _
   refine zdj h.srt (by omega) ?_
   show (bif (if (zaq (oK f) l).isSome = true then (0 : Int) else 3) != 0 then Q (.i (if (zaq (oK f) l).isSome = true then (0 : Int) else 3)) [pC l n0] else _ ∧ _ : Prop)
   by_cases hg : (zaq (oK f) l).isSome = true
   · rw [if_pos hg]
     exact cNe (fun h => absurd rfl h) fun _ => ⟨⟨by first | trivial | rfl, by first | trivial | rfl, .inr (.inl ⟨rfl, hg⟩)⟩, by dsimp only; decide⟩
   · rw [if_neg hg]
     exact bad (.inl (by unfold zb5; simpa using hg))
 · refine cIf (fun _ => ⟨by decide, by decide, ?_⟩) fun h => absurd (by decide) h
   show PRun _ _ _ _ _
   refine zdj h.srt (by omega) ?_
   show (bif (if (zaq (oK t) l).isSome = true then (0 : Int) else 3) != 0 then Q (.i (if (zaq (oK t) l).isSome = true then (0 : Int) else 3)) [pC l n0] else _ ∧ _ : Prop)
   by_cases hg : (zaq (oK t) l).isSome = true
   · rw [if_pos hg]
     exact cNe (fun h => absurd rfl h) fun _ => ⟨⟨by first | trivial | rfl, by first | trivial | rfl, .inr (.inr ⟨rfl, hf, hg⟩)⟩, by dsimp only; decide⟩
   · rw [if_neg hg]
     exact bad (.inr (by unfold zb5; simpa using hg))
 · refine cIf (fun h => absurd h (by decide)) fun _ => ?_
   refine may_S h (by omega) ?_
   show (bif zkl f n l == 0 then PRun _ _ _ _ _ else _ : Prop)
   have em : zdi f t n l = zkl f n l := by unfold zdi; rw [hf, ht]; rfl
   rw [em] at k1 k2
   refine cEq (fun h0 => ?_) fun h0 => k1 h0
   obtain ⟨-, g1, g2⟩ := znj h0
   have hv := h.val f
   have htop := h.top
   have hsum := h.nn
   have e1 : z13 .i64 (0 - n) = -n := by rw [w64 (by omega) (by omega)]; omega
   rw [e1]
   refine adds_S h.srt (by omega) ?_
   rw [w64 (x := zag (oK f) l + -n) (by omega) (by omega), w64 (x := n0 + -n) (by omega) (by omega)]
   show PRun _ _ _ _ _
   have p1 : PInv (zeo (oK f) (zag (oK f) l + -n) l) (n0 + -n) := by
    have := h.put (o := f) (v := zag (oK f) l + -n) (h.own hf) (by omega) (by omega)
    rwa [show n0 + (zag (oK f) l + -n) - zag (oK f) l = n0 + -n by omega] at this
   have hv2 := p1.val t
   have htl := zjc (k := oK f) (v := zag (oK f) l + -n) (l := l)
   refine adds_S p1.srt (by omega) ?_
   rw [w64 (x := zag (oK t) (zeo (oK f) (zag (oK f) l + -n) l) + n) (by omega) (by omega), w64 (x := n0 + -n + n) (by omega) (by omega), show n0 + -n + n = n0 by omega]
   show Q (.i (zkl f n l)) _
   rw [h0]
   exact k2 h0
theorem zvb {l : Tb} {n : Int} (k : Q (.i n) [pC l n]) : PRun Tryz.prog 30 [pC l n] [.r 0 0] Q := S30 k
end
section
set_option maxRecDepth 100000
theorem z0w : Tryz.prog.follows .mixedOrders = true := by kernel_rfl
theorem S117 {b_0 : List (List U)} {b_1 : List Int} {x_0 : Int} {x_1 : Int} {x_2 : Int} {x_3 : Int} {Q : V → Mem → Prop} (hh : PRun Tryz.prog 143 [] [.l 5 b_0, .a [.i x_0, .i x_1, .i x_2, .i 1], .f 145 [] []] (post [.I, .B] [] (fun x1 b1 => (PRun Tryz.prog 143 [] [.l 5 b_0, .a [.i x_0, .i x_1, .i x_2, .i 33], .f 145 [] []] (post [.I, .B] [] (fun x2 b2 => (0 ≤ x1 ∧ (x1 ≤ (if x2 > x1 then x2 else x1) ∧ (if x2 > x1 then x2 else x1) ≤ (z15 b_0 : Int) ∧ (∃ (I1 : Int → List (List U) → Prop) (f1 : Int → List (List U) → Nat), I1 0 [] ∧ (∀ x3 : Int, ∀ l1 : List (List U), I1 x3 l1 → (bif decide (x3 < (z15 (List.drop (z16 x1) (List.take (z16 (if x2 > x1 then x2 else x1)) b_0)) : Int)) then elL (List.drop (z16 x1) (List.take (z16 (if x2 > x1 then x2 else x1)) b_0)) x3 (fun r1 => dI .i64 (ug r1 0) (fun x4 => dI .i64 (ug r1 1) (fun x5 => dI .i64 (ug r1 2) (fun x6 => dI .i64 (ug r1 3) (fun x7 => dI .i64 (ug r1 4) (fun x8 => zbo l1 [[.n x7, .n x8]] ∧ (I1 (z13 .i64 (x3 + 1)) (l1 ++ [[.n x7, .n x8]]) ∧ f1 (z13 .i64 (x3 + 1)) (l1 ++ [[.n x7, .n x8]]) < f1 x3 l1))))))) else Q (.l 2 l1) [.c [.l 5 b_0, .n .i64 33 b_1]])))) : Prop))) : Prop)))) : PRun Tryz.prog 117 [.c [.l 5 b_0, .n .i64 33 b_1]] [.r 0 0, .a [.i x_0, .i x_1, .i x_2, .i x_3]] Q :=
 zak z0w Tryz.func117 (by kernel_rfl) (H := ⟨[((190, 1, 10), ⟨[(7, .I)], [(2, .c [.ow 106 2])]⟩)], [], [86, 100, 144, 153, 159, 172, 190], [], [], false, 64, KN.no, false, SP.no⟩) (n := 5) (by kernel_rfl) hh
theorem S97 {owner : Int} {place : Int} {Q : V → Mem → Prop} (hh : Q (.a [.i owner, .i 0, .i place, .i 1]) []) : PRun Tryz.prog 97 [] [.i owner, .i place] Q :=
 zak z0w Tryz.func97 (by kernel_rfl) (H := ⟨[], [], [], [], [], false, 64, KN.no, false, SP.no⟩) (n := 2) (by kernel_rfl) hh
theorem S116 {n : Int} {Q : V → Mem → Prop} (hh : bif decide (n ≥ 1) then Q (.u (.b (decide (n ≤ 8)))) [] else Q (.u (.b false)) []) : PRun Tryz.prog 116 [] [.i n] Q :=
 zak z0w Tryz.func116 (by kernel_rfl) (H := ⟨[], [], [], [], [], false, 64, KN.no, false, SP.no⟩) (n := 2) (by kernel_rfl) hh
theorem S58 {b_0 : List (List U)} {b_1 : List Int} {what : Int} {id : Int} {place : Int} {Q : V → Mem → Prop} (hh : PRun Tryz.prog 94 [] [.i what, .i id] (post [.I, .I] [] (fun x1 x2 => (bif x2 != 0 then Q (.t [.l 2 [], .i 1]) [.c [.l 5 b_0, .n .i64 33 b_1]] else PRun Tryz.prog 116 [] [.i place] (post [.B] [] (fun b1 => (bif !b1 then Q (.t [.l 2 [], .i 1]) [.c [.l 5 b_0, .n .i64 33 b_1]] else PRun Tryz.prog 97 [] [.i x1, .i place] (post [.agg [.i .i64, .i .i64, .i .i64, .i .i64]] [] (fun x3 x4 x5 x6 => (PRun Tryz.prog 117 [.c [.l 5 b_0, .n .i64 33 b_1]] [.r 0 0, .a [.i x3, .i x4, .i x5, .i x6]] (post [.L 2] [.c [.l 5, .n 33]] (fun l1 l2 a1 => ∃ (I1 : Int → List (List U) → List Int → Prop) (f1 : Int → List (List U) → List Int → Nat), I1 0 l2 a1 ∧ (∀ x7 : Int, ∀ l3 : List (List U), ∀ a2 : List Int, I1 x7 l3 a2 → (bif decide (x7 < (z15 l1 : Int)) then elL l1 x7 (fun r1 => dI .i64 (ug r1 0) (fun x8 => dI .i64 (ug r1 1) (fun x9 => PRun Tryz.prog 97 [] [.i x1, .i place] (post [.agg [.i .i64, .i .i64, .i .i64, .i .i64]] [] (fun x10 x11 x12 x13 => (PRun Tryz.prog 108 [.c [.l 5 l3, .n .i64 33 a2]] [.r 0 0, .a [.i x10, .i x11, .i x12, .i x8], .i x9] (post [.I] [.c [.l 5, .n 33]] (fun x14 l4 a3 => (I1 (z13 .i64 (x7 + 1)) l4 a3 ∧ f1 (z13 .i64 (x7 + 1)) l4 a3 < f1 x7 l3 a2 : Prop))) : Prop)))))) else Q (.t [.l 2 l1, .i 0]) [.c [.l 5 l3, .n .i64 33 a2]])))) : Prop))) : Prop))) : Prop)))) : PRun Tryz.prog 58 [.c [.l 5 b_0, .n .i64 33 b_1]] [.r 0 0, .i what, .i id, .i place] Q :=
 zak z0w Tryz.func58 (by kernel_rfl) (H := ⟨[((58, 6, 1), ⟨[(40, .I)], [(0, .c [.l 5, .n 33])]⟩)], [], [], [], [], false, 64, KN.no, false, SP.no⟩) (n := 2) (by kernel_rfl) hh
theorem S54 {b_0 : List (List U)} {b_1 : List Int} {what : Int} {id : Int} {place : Int} {to0_0 : Int} {to0_1 : Int} {to0_2 : Int} {to0_3 : Int} {Q : V → Mem → Prop} (hh : bif to0_2 != place then Q (.i 1) [.c [.l 5 b_0, .n .i64 33 b_1]] else PRun Tryz.prog 59 [.c [.l 5 b_0, .n .i64 33 b_1]] [.r 0 0, .a [.i to0_0, .i to0_1, .i to0_2, .i 1], .i 0] (post [.I] [.c [.l 5, .n 33]] (fun x1 l1 a1 => (bif x1 != 0 then Q (.i 1) [.c [.l 5 b_0, .n .i64 33 b_1]] else PRun Tryz.prog 58 [.c [.l 5 b_0, .n .i64 33 b_1]] [.r 0 0, .i what, .i id, .i place] (post [.L 2, .I] [.c [.l 5, .n 33]] (fun l2 x2 l3 a2 => ∃ (I1 : Int → List (List U) → List Int → Int → Int → Int → Int → Prop) (f1 : Int → List (List U) → List Int → Int → Int → Int → Int → Nat), I1 0 l3 a2 to0_0 to0_1 to0_2 1 ∧ (∀ x3 : Int, ∀ l4 : List (List U), ∀ a3 : List Int, ∀ x4 : Int, ∀ x5 : Int, ∀ x6 : Int, ∀ x7 : Int, I1 x3 l4 a3 x4 x5 x6 x7 → (bif decide (x3 < (z15 l2 : Int)) then elL l2 x3 (fun r1 => dI .i64 (ug r1 0) (fun x8 => dI .i64 (ug r1 1) (fun x9 => PRun Tryz.prog 59 [.c [.l 5 l4, .n .i64 33 a3]] [.r 0 0, .a [.i x4, .i x5, .i x6, .i x8], .i x9] (post [.I] [.c [.l 5, .n 33]] (fun x10 l5 a4 => (I1 (z13 .i64 (x3 + 1)) l5 a4 x4 x5 x6 x8 ∧ f1 (z13 .i64 (x3 + 1)) l5 a4 x4 x5 x6 x8 < f1 x3 l4 a3 x4 x5 x6 x7 : Prop)))))) else Q (.i x2) [.c [.l 5 l4, .n .i64 33 a3]])))) : Prop)))) : PRun Tryz.prog 54 [.c [.l 5 b_0, .n .i64 33 b_1]] [.r 0 0, .i what, .i id, .i place, .a [.i to0_0, .i to0_1, .i to0_2, .i to0_3]] Q :=
 zak z0w Tryz.func54 (by kernel_rfl) (H := ⟨[((54, 6, 3), ⟨[(37, .I)], [(0, .c [.l 5, .n 33]), (1, .c [.i .i64, .i .i64, .i .i64, .i .i64])]⟩)], [], [109], [], [], false, 64, KN.no, false, SP.no⟩) (n := 3) (by kernel_rfl) hh
end
section
set_option maxRecDepth 100000
theorem mixTt : Tryz.prog.follows .mixedOrders = true := by kernel_rfl
theorem S130 {d_0 : Int} {d_1 : Int} {d_2 : Int} {d_3 : Int} {d_4 : Int} {d_5 : Int} {d_6 : Int} {d_7 : Int} {d_8 : Int} {d_9 : Int} {d_10 : Int} {d_11 : Int} {d_12 : Int} {d_13 : List (List U)} {d_14 : List (List U)} {d_15 : Int} {d_16 : Int} {d_17 : Int} {d_18 : Int} {Q : V → Mem → Prop} (hh : ∀ k1 : Bool → Prop, (∀ b1 : Bool, (∀ k2 : Bool → Prop, (∀ b2 : Bool, (∀ k3 : Bool → Prop, (∀ b3 : Bool, ((bif d_15 == 1 then (bif b3 then Q (.u (.b b1)) [] else Q (.u (.b false)) []) else (bif d_15 == 2 then (bif d_1 == 1 then (bif b3 then Q (.u (.b b2)) [] else Q (.u (.b false)) []) else Q (.u (.b false)) []) else (bif d_15 == 3 then (bif d_16 == 0 then Q (.u (.b b2)) [] else Q (.u (.b false)) []) else (bif d_15 == 4 then (bif d_1 == 1 then (bif d_16 == 0 then Q (.u (.b b2)) [] else Q (.u (.b false)) []) else Q (.u (.b false)) []) else (bif d_15 == 5 then (bif d_5 != 0 then (bif d_16 == 0 then Q (.u (.b b1)) [] else Q (.u (.b false)) []) else Q (.u (.b false)) []) else (bif d_15 == 6 then (bif d_15 == 6 then (bif d_16 == 0 then Q (.u (.b b1)) [] else Q (.u (.b false)) []) else Q (.u (.b false)) []) else (bif d_15 == 7 then (bif d_16 == 0 then Q (.u (.b b1)) [] else Q (.u (.b false)) []) else Q (.u (.b false)) [])))))))) → k3 b3) → (bif decide (d_16 ≥ 1) then k3 (decide (d_16 ≤ 2199023255552)) else k3 false)) → k2 b2) → (bif decide (d_17 ≥ 1) then (bif decide (d_17 ≤ 1099511627776) then (bif d_17 != d_2 then (bif decide (d_18 ≥ 0) then k2 (decide (d_18 ≤ 4)) else k2 false) else k2 false) else k2 false) else k2 false)) → k1 b1) → (bif d_17 == 0 then k1 (d_18 == 0) else k1 false)) : PRun Tryz.prog 130 [] [aDx d_0 d_1 d_2 d_3 d_4 d_5 d_6 d_7 d_8 d_9 d_10 d_11 d_12 d_13 d_14 d_15 d_16 d_17 d_18] Q :=
 zak mixTt Tryz.func130 (by kernel_rfl) (H := ⟨[], [((130, 3, 1), ⟨[(4, .B)], []⟩), ((130, 4, 1), ⟨[(5, .B)], []⟩), ((130, 5, 1), ⟨[(6, .B)], []⟩)], [101], [], [], false, 64, KN.no, false, SP.no⟩) (n := 3) (by kernel_rfl) hh
theorem S74 {d_0 : Int} {d_1 : Int} {d_2 : Int} {d_3 : Int} {d_4 : Int} {d_5 : Int} {d_6 : Int} {d_7 : Int} {d_8 : Int} {d_9 : Int} {d_10 : Int} {d_11 : Int} {d_12 : Int} {d_13 : List (List U)} {d_14 : List (List U)} {d_15 : Int} {d_16 : Int} {d_17 : Int} {d_18 : Int} {Q : V → Mem → Prop} (hh : ∀ k1 : Bool → Prop, (∀ b1 : Bool, (∀ k2 : Bool → Prop, (∀ b2 : Bool, (∀ k3 : Bool → Prop, (∀ b3 : Bool, (∀ k4 : Bool → Prop, (∀ b4 : Bool, ((bif b1 then (bif b2 then (bif b3 then (bif b4 then PRun Tryz.prog 130 [] [aDx d_0 d_1 d_2 d_3 d_4 d_5 d_6 d_7 d_8 d_9 d_10 d_11 d_12 d_13 d_14 d_15 d_16 d_17 d_18] (post [.B] [] (fun b5 => (bif b5 then Q (.i 0) [] else Q (.i 1) [] : Prop))) else Q (.i 1) []) else Q (.i 1) []) else Q (.i 1) []) else Q (.i 1) [])) → k4 b4) → (bif d_1 == 1 then (bif decide (d_7 ≥ 1) then (bif decide (d_7 ≤ 8) then (bif decide (d_11 ≥ 1) then (bif decide (d_11 ≤ 1048576) then (bif decide (d_9 ≥ 0) then (bif decide (d_9 ≤ 1152921504606846976) then (bif decide ((z15 d_13 : Int) > 0) then k4 ((z15 d_14 : Int) == 0) else k4 false) else k4 false) else k4 false) else k4 false) else k4 false) else k4 false) else k4 false) else (bif d_1 == 2 then (bif eqI [d_7, d_11, d_9] [0, 0, 0] then k4 (decide (z13 .i64 ((z15 d_13 : Int) + (z15 d_14 : Int)) > 0)) else k4 false) else k4 false))) → k3 b3) → PRun Tryz.prog 88 [] [.l 2 d_13, .i 32] (post [.I] [] (fun x1 => (bif x1 == 0 then PRun Tryz.prog 88 [] [.l 2 d_14, .i 32] (post [.I] [] (fun x2 => (k3 (x2 == 0) : Prop))) else k3 false : Prop)))) → k2 b2) → (bif decide (d_6 ≥ 1) then (bif decide (d_6 ≤ 8) then (bif decide (d_8 ≥ 0) then (bif decide (d_8 ≤ 1152921504606846976) then (bif decide (d_12 ≥ 0) then (bif decide (d_12 ≤ 1152921504606846976) then (bif decide (d_10 ≥ 1) then k2 (decide (d_10 ≤ 1048576)) else k2 false) else k2 false) else k2 false) else k2 false) else k2 false) else k2 false) else k2 false)) → k1 b1) → (bif decide (d_0 ≥ 1) then (bif decide (d_0 ≤ 1099511627776) then (bif decide (d_2 ≥ 1) then (bif decide (d_2 ≤ 1099511627776) then (bif decide (d_4 ≥ 1) then (bif decide (d_4 ≤ 1099511627776) then (bif decide (d_3 ≥ 0) then (bif decide (d_3 ≤ 4) then (bif decide (d_5 ≥ 0) then (bif decide (d_5 ≤ 1099511627776) then k1 (d_5 != d_2) else k1 false) else k1 false) else k1 false) else k1 false) else k1 false) else k1 false) else k1 false) else k1 false) else k1 false) else k1 false)) : PRun Tryz.prog 74 [] [aDx d_0 d_1 d_2 d_3 d_4 d_5 d_6 d_7 d_8 d_9 d_10 d_11 d_12 d_13 d_14 d_15 d_16 d_17 d_18] Q :=
 zak mixTt Tryz.func74 (by kernel_rfl) (H := ⟨[], [((74, 2, 1), ⟨[(3, .B)], []⟩), ((74, 3, 1), ⟨[(4, .B)], []⟩), ((74, 4, 1), ⟨[(5, .B)], []⟩), ((74, 10, 1), ⟨[(6, .B)], []⟩)], [101], [], [], false, 64, KN.no, false, SP.no⟩) (n := 3) (by kernel_rfl) hh
end
section
variable {Q : V → Mem → Prop}
structure Dl where
 id : Int
 kind : Int
 iss : Int
 div : Int
 bye : Int
 to : Int
 place : Int
 dest : Int
 pay : Int
 pledge : Int
 lasts : Int
 days : Int
 fee : Int
 gives : List Stk
 wants : List Stk
 st : Int
 due : Int
 taker : Int
 into : Int
abbrev dV (d : Dl) : V := .a [.i d.id, .i d.kind, .i d.iss, .i d.div, .i d.bye, .i d.to, .i d.place, .i d.dest, .i d.pay, .i d.pledge, .i d.lasts, .i d.days, .i d.fee, .l 2 (d.gives.map eS), .l 2 (d.wants.map eS), .i d.st, .i d.due, .i d.taker, .i d.into]
abbrev zda (d : Dl) : List U := [.n d.id, .n d.kind, .n d.iss, .n d.div, .n d.bye, .n d.to, .n d.place, .n d.dest, .n d.pay, .n d.pledge, .n d.lasts, .n d.days, .n d.fee, .l 2 (d.gives.map eS), .l 2 (d.wants.map eS), .n d.st, .n d.due, .n d.taker, .n d.into]
theorem zdo {k : Bool → Prop} {c r : Bool} {T : Prop} (h : k (c && r)) (hT : k r → T) : bif c then T else k false := by
 cases c with
 | true => exact hT h
 | false => exact h
def zxt (d : Dl) : Bool := d.taker == 0 && d.into == 0
def zfh (d : Dl) : Bool := decide (d.taker ≥ 1) && (decide (d.taker ≤ 1099511627776) && (d.taker != d.iss && (decide (d.into ≥ 0) && decide (d.into ≤ 4))))
def dDue (d : Dl) : Bool := decide (d.due ≥ 1) && decide (d.due ≤ 2199023255552)
def zdl (d : Dl) : Bool :=
 if d.st = 1 then dDue d && zxt d else if d.st = 2 then d.kind == 1 && (dDue d && zfh d) else if d.st = 3 then d.due == 0 && zfh d else if d.st = 4 then d.kind == 1 && (d.due == 0 && zfh d)
 else if d.st = 5 then d.to != 0 && (d.due == 0 && zxt d) else if d.st = 6 ∨ d.st = 7 then d.due == 0 && zxt d else false
theorem stands_S {d : Dl} (K : Q (.u (.b (zdl d))) []) : PRun Tryz.prog 130 [] [dV d] Q := by
 refine S130 ?_
 intro k1 hk1
 refine zdo (hk1 (zxt d) ?_) fun h => h
 intro k2 hk2
 refine zdo (hk2 (zfh d) ?_) fun h => zdo h fun h => zdo h fun h => zdo h fun h => h
 intro k3 hk3
 refine zdo (hk3 (dDue d) ?_) fun h => h
 generalize hk : (fun b => Q (.u (.b b)) []) = k
 have e : ∀ b, Q (.u (.b b)) [] = k b := fun b => by rw [← hk]
 rw [e] at K
 simp only [e]
 unfold zdl at K
 refine cEq (fun h => ?_) fun h1 => cEq (fun h => ?_) fun h2 => cEq (fun h => ?_) fun h3 => cEq (fun h => ?_) fun h4 => cEq (fun h => ?_) fun h5 => cEq (fun h => ?_) fun h6 => cEq (fun h => ?_) fun h7 => ?_
 · rw [if_pos h] at K; exact zdo K fun h => h
 · rw [if_neg h1, if_pos h] at K; exact zdo K fun h => zdo h fun h => h
 · rw [if_neg h1, if_neg h2, if_pos h] at K; exact zdo K fun h => h
 · rw [if_neg h1, if_neg h2, if_neg h3, if_pos h] at K; exact zdo K fun h => zdo h fun h => h
 · rw [if_neg h1, if_neg h2, if_neg h3, if_neg h4, if_pos h] at K; exact zdo K fun h => zdo h fun h => h
 · rw [if_neg h1, if_neg h2, if_neg h3, if_neg h4, if_neg h5, if_pos (.inl h)] at K; exact cEq (fun _ => zdo K fun h => h) fun h8 => absurd h h8
 · rw [if_neg h1, if_neg h2, if_neg h3, if_neg h4, if_neg h5, if_pos (.inr h)] at K; exact zdo K fun h => h
 · rw [if_neg h1, if_neg h2, if_neg h3, if_neg h4, if_neg h5, if_neg (by omega)] at K; exact K
def dWho (d : Dl) : Bool := decide (d.id ≥ 1) && (decide (d.id ≤ 1099511627776) && (decide (d.iss ≥ 1) && (decide (d.iss ≤ 1099511627776) && (decide (d.bye ≥ 1) && (decide (d.bye ≤ 1099511627776) && (decide (d.div ≥ 0) && (decide (d.div ≤ 4) && (decide (d.to ≥ 0) && (decide (d.to ≤ 1099511627776) && d.to != d.iss)))))))))
def dWhat (d : Dl) : Bool := decide (d.place ≥ 1) && (decide (d.place ≤ 8) && (decide (d.pay ≥ 0) && (decide (d.pay ≤ 1152921504606846976) && (decide (d.fee ≥ 0) && (decide (d.fee ≤ 1152921504606846976) && (decide (d.lasts ≥ 1) && decide (d.lasts ≤ 1048576)))))))
def zwc (d : Dl) : Bool := zhv d.gives 32 == 0 && zhv d.wants 32 == 0
def zxs (d : Dl) : Bool :=
 if d.kind = 1 then decide (d.dest ≥ 1) && (decide (d.dest ≤ 8) && (decide (d.days ≥ 1) && (decide (d.days ≤ 1048576) && (decide (d.pledge ≥ 0) && (decide (d.pledge ≤ 1152921504606846976) && (decide ((d.gives.length : Int) > 0) && (d.wants.length : Int) == 0))))))
 else if d.kind = 2 then eqI [d.dest, d.days, d.pledge] [0, 0, 0] && decide ((d.gives.length : Int) + (d.wants.length : Int) > 0) else false
def dOk (d : Dl) : Bool := dWho d && (dWhat d && (zwc d && (zxs d && zdl d)))
def dChk (d : Dl) : Int := if dOk d then 0 else 1
theorem zht {d : Dl} (h1 : d.gives.length ≤ 1000000) (h2 : d.wants.length ≤ 1000000) (K : Q (.i (dChk d)) []) : PRun Tryz.prog 74 [] [dV d] Q := by
 refine S74 ?_
 simp only [z2d]
 intro k1 hk1
 refine zdo (hk1 (dWho d) ?_) fun h => zdo h fun h => zdo h fun h => zdo h fun h => zdo h fun h => zdo h fun h => zdo h fun h => zdo h fun h => zdo h fun h => zdo h fun h => h
 intro k2 hk2
 refine zdo (hk2 (dWhat d) ?_) fun h => zdo h fun h => zdo h fun h => zdo h fun h => zdo h fun h => zdo h fun h => zdo h fun h => h
 intro k3 hk3
 refine zg7 h1 ?_
 rw [zax]
 refine zdo (k := k3) (hk3 (zwc d) ?_) fun h => zg7 h2 ?_
 · intro k4 hk4
   have main : k4 (zxs d) := hk4 (zxs d) (by
    unfold dChk dOk at K
    cases q1 : dWho d with
    | false => rw [q1] at K; exact K
    | true =>
      rw [q1] at K
      cases q2 : dWhat d with
      | false => rw [q2] at K; exact K
      | true =>
        rw [q2] at K
        cases q3 : zwc d with
        | false => rw [q3] at K; exact K
        | true =>
          rw [q3] at K
          cases q4 : zxs d with
          | false => rw [q4] at K; exact K
          | true =>
            rw [q4] at K
            refine stands_S ?_
            rw [zci]
            cases q5 : zdl d with
            | false => rw [q5] at K; exact K
            | true => rw [q5] at K; exact K)
   unfold zxs at main
   refine cEq (fun h => ?_) fun h3 => cEq (fun h => ?_) fun h4 => ?_
   · rw [if_pos h] at main
     exact zdo main fun h => zdo h fun h => zdo h fun h => zdo h fun h => zdo h fun h => zdo h fun h => zdo h fun h => h
   · rw [if_neg h3, if_pos h] at main
     refine zdo main fun h => ?_
     rw [w64 (by omega) (by omega)]; exact h
   · rw [if_neg h3, if_neg h4] at main; exact main
 · rw [zax]; exact h
end
section
variable {Q : V → Mem → Prop}
end
section
attribute [local irreducible] znx zxu delK updK zxj zxh zm9 zxb znt zdw zf1 zgk
noncomputable def cntN (l : List Stk) (k : Int) : Int := if errN l = 0 then tot l k else 0
theorem PRun.keep {P : Program} {g : FuncId} {args : List V} {Q : V → Mem → Prop}
 (hh : ∀ (D : Fz) (C : List zab) (h : zac) (vs : List Value), St D C h → RpL D [] vs args → Run P g vs h fun v h' => Keep h h' ∧ ∃ x, Rp D [] v x ∧ Q x []) : PRun P g [] args Q := by
 intro D ρ chs C h vs M F
 have h1 : ρ = [] := z3w M.len
 have h2 : chs = [] := z3w M.lch
 subst h1; subst h2
 refine (hh D C h vs (by simpa using M.st) F).mono ?_
 rintro v h' ⟨k, x, hx, hQ⟩
 exact ⟨D, [], [], x, [], .refl _, ⟨rfl, rfl, fun i L ab ch h => (by simp at h), by simpa using (show St D C h by simpa using M.st).keep k⟩, hx, hQ⟩
theorem RpL.two {D : Fz} {ρ : List Loc} {vs : List Value} {x y : V} (h : RpL D ρ vs [x, y]) : ∃ v w, vs = [v, w] ∧ Rp D ρ v x ∧ Rp D ρ w y := by
 cases h with | cons a b => cases b with | cons b c => cases c; exact ⟨_, _, rfl, a, b⟩
theorem Rp.u_inv {D : Fz} {ρ : List Loc} {v : Value} {x : U} (h : Rp D ρ v (.u x)) : Rd D v x := by cases h; assumption
end
section
variable {Q : V → Mem → Prop}
end
section
set_option maxRecDepth 100000
theorem mixTb : Tryz.prog.follows .mixedOrders = true := by kernel_rfl
theorem S152 {hi : Int} {lo : Int} {y : Int} {Q : V → Mem → Prop} (hh : bif y == 0 then False else (bif decide (y ≤ hi) then False else (bif hi == 0 then y ≠ 0 ∧ (y ≠ 0 ∧ (Q (.t [.u (.i .u64 (z13 .u64 (Int.tdiv lo y))), .u (.i .u64 (Int.tmod lo y))]) [])) else PRun Tryz.prog 181 [] [.u (.i .u64 y)] (post [.I] [] (fun x1 => (0 ≤ z13 .u64 x1 ∧ (0 ≤ (32 : Int) ∧ (0 ≤ z13 .u64 x1 ∧ (0 ≤ z13 .u64 (64 - z13 .u64 x1) ∧ (0 ≤ z13 .u64 x1 ∧ (0 ≤ (32 : Int) ∧ (Int.fdiv (z13 .u64 (y * 2 ^ (min (z16 (z13 .u64 x1)) 64))) (2 ^ (32)) ≠ 0 ∧ (∀ k1 : Int → Prop, (∀ x2 : Int, (Int.fdiv (z13 .u64 (y * 2 ^ (min (z16 (z13 .u64 x1)) 64))) (2 ^ (32)) ≠ 0 ∧ (∃ (I1 : Int → Int → Prop) (f1 : Int → Int → Nat), I1 (z13 .u64 (z13 .u64 (z13 .u64 (z13 .u64 (z13 .u64 (BitVec.toNat (BitVec.ofInt 64 (z13 .u64 (hi * 2 ^ (min (z16 (z13 .u64 x1)) 64))) ||| (BitVec.ofInt 64 (Int.fdiv lo (2 ^ (min (z16 (z13 .u64 (64 - z13 .u64 x1))) 64))))) : Int) * 4294967296) + Int.fdiv (z13 .u64 (lo * 2 ^ (min (z16 (z13 .u64 x1)) 64))) (2 ^ (32))) - z13 .u64 (x2 * z13 .u64 (y * 2 ^ (min (z16 (z13 .u64 x1)) 64)))) - z13 .u64 (z13 .u64 (Int.tdiv (z13 .u64 (z13 .u64 (z13 .u64 (z13 .u64 (BitVec.toNat (BitVec.ofInt 64 (z13 .u64 (hi * 2 ^ (min (z16 (z13 .u64 x1)) 64))) ||| (BitVec.ofInt 64 (Int.fdiv lo (2 ^ (min (z16 (z13 .u64 (64 - z13 .u64 x1))) 64))))) : Int) * 4294967296) + Int.fdiv (z13 .u64 (lo * 2 ^ (min (z16 (z13 .u64 x1)) 64))) (2 ^ (32))) - z13 .u64 (x2 * z13 .u64 (y * 2 ^ (min (z16 (z13 .u64 x1)) 64))))) (Int.fdiv (z13 .u64 (y * 2 ^ (min (z16 (z13 .u64 x1)) 64))) (2 ^ (32)))) * Int.fdiv (z13 .u64 (y * 2 ^ (min (z16 (z13 .u64 x1)) 64))) (2 ^ (32))))) (z13 .u64 (Int.tdiv (z13 .u64 (z13 .u64 (z13 .u64 (z13 .u64 (BitVec.toNat (BitVec.ofInt 64 (z13 .u64 (hi * 2 ^ (min (z16 (z13 .u64 x1)) 64))) ||| (BitVec.ofInt 64 (Int.fdiv lo (2 ^ (min (z16 (z13 .u64 (64 - z13 .u64 x1))) 64))))) : Int) * 4294967296) + Int.fdiv (z13 .u64 (lo * 2 ^ (min (z16 (z13 .u64 x1)) 64))) (2 ^ (32))) - z13 .u64 (x2 * z13 .u64 (y * 2 ^ (min (z16 (z13 .u64 x1)) 64))))) (Int.fdiv (z13 .u64 (y * 2 ^ (min (z16 (z13 .u64 x1)) 64))) (2 ^ (32))))) ∧ (∀ x3 : Int, ∀ x4 : Int, I1 x3 x4 → (bif decide (x4 ≥ 4294967296) then (bif decide (z13 .u64 (x3 + Int.fdiv (z13 .u64 (y * 2 ^ (min (z16 (z13 .u64 x1)) 64))) (2 ^ (32))) ≥ 4294967296) then 0 ≤ z13 .u64 x1 ∧ (Q (.t [.u (.i .u64 (z13 .u64 (z13 .u64 (x2 * 4294967296) + z13 .u64 (x4 - 1)))), .u (.i .u64 (Int.fdiv (z13 .u64 (z13 .u64 (z13 .u64 (z13 .u64 (z13 .u64 (z13 .u64 (z13 .u64 (BitVec.toNat (BitVec.ofInt 64 (z13 .u64 (hi * 2 ^ (min (z16 (z13 .u64 x1)) 64))) ||| (BitVec.ofInt 64 (Int.fdiv lo (2 ^ (min (z16 (z13 .u64 (64 - z13 .u64 x1))) 64))))) : Int) * 4294967296) + Int.fdiv (z13 .u64 (lo * 2 ^ (min (z16 (z13 .u64 x1)) 64))) (2 ^ (32))) - z13 .u64 (x2 * z13 .u64 (y * 2 ^ (min (z16 (z13 .u64 x1)) 64)))) * 4294967296) + z13 .u64 (BitVec.toNat (BitVec.ofInt 64 (z13 .u64 (lo * 2 ^ (min (z16 (z13 .u64 x1)) 64))) &&& (BitVec.ofInt 64 4294967295)) : Int)) - z13 .u64 (z13 .u64 (x4 - 1) * z13 .u64 (y * 2 ^ (min (z16 (z13 .u64 x1)) 64))))) (2 ^ (min (z16 (z13 .u64 x1)) 64))))]) []) else I1 (z13 .u64 (x3 + Int.fdiv (z13 .u64 (y * 2 ^ (min (z16 (z13 .u64 x1)) 64))) (2 ^ (32)))) (z13 .u64 (x4 - 1)) ∧ f1 (z13 .u64 (x3 + Int.fdiv (z13 .u64 (y * 2 ^ (min (z16 (z13 .u64 x1)) 64))) (2 ^ (32)))) (z13 .u64 (x4 - 1)) < f1 x3 x4) else (bif decide (z13 .u64 (x4 * z13 .u64 (BitVec.toNat (BitVec.ofInt 64 (z13 .u64 (y * 2 ^ (min (z16 (z13 .u64 x1)) 64))) &&& (BitVec.ofInt 64 4294967295)) : Int)) > z13 .u64 (z13 .u64 (4294967296 * x3) + z13 .u64 (BitVec.toNat (BitVec.ofInt 64 (z13 .u64 (lo * 2 ^ (min (z16 (z13 .u64 x1)) 64))) &&& (BitVec.ofInt 64 4294967295)) : Int))) then (bif decide (z13 .u64 (x3 + Int.fdiv (z13 .u64 (y * 2 ^ (min (z16 (z13 .u64 x1)) 64))) (2 ^ (32))) ≥ 4294967296) then 0 ≤ z13 .u64 x1 ∧ (Q (.t [.u (.i .u64 (z13 .u64 (z13 .u64 (x2 * 4294967296) + z13 .u64 (x4 - 1)))), .u (.i .u64 (Int.fdiv (z13 .u64 (z13 .u64 (z13 .u64 (z13 .u64 (z13 .u64 (z13 .u64 (z13 .u64 (BitVec.toNat (BitVec.ofInt 64 (z13 .u64 (hi * 2 ^ (min (z16 (z13 .u64 x1)) 64))) ||| (BitVec.ofInt 64 (Int.fdiv lo (2 ^ (min (z16 (z13 .u64 (64 - z13 .u64 x1))) 64))))) : Int) * 4294967296) + Int.fdiv (z13 .u64 (lo * 2 ^ (min (z16 (z13 .u64 x1)) 64))) (2 ^ (32))) - z13 .u64 (x2 * z13 .u64 (y * 2 ^ (min (z16 (z13 .u64 x1)) 64)))) * 4294967296) + z13 .u64 (BitVec.toNat (BitVec.ofInt 64 (z13 .u64 (lo * 2 ^ (min (z16 (z13 .u64 x1)) 64))) &&& (BitVec.ofInt 64 4294967295)) : Int)) - z13 .u64 (z13 .u64 (x4 - 1) * z13 .u64 (y * 2 ^ (min (z16 (z13 .u64 x1)) 64))))) (2 ^ (min (z16 (z13 .u64 x1)) 64))))]) []) else I1 (z13 .u64 (x3 + Int.fdiv (z13 .u64 (y * 2 ^ (min (z16 (z13 .u64 x1)) 64))) (2 ^ (32)))) (z13 .u64 (x4 - 1)) ∧ f1 (z13 .u64 (x3 + Int.fdiv (z13 .u64 (y * 2 ^ (min (z16 (z13 .u64 x1)) 64))) (2 ^ (32)))) (z13 .u64 (x4 - 1)) < f1 x3 x4) else 0 ≤ z13 .u64 x1 ∧ (Q (.t [.u (.i .u64 (z13 .u64 (z13 .u64 (x2 * 4294967296) + x4))), .u (.i .u64 (Int.fdiv (z13 .u64 (z13 .u64 (z13 .u64 (z13 .u64 (z13 .u64 (z13 .u64 (z13 .u64 (BitVec.toNat (BitVec.ofInt 64 (z13 .u64 (hi * 2 ^ (min (z16 (z13 .u64 x1)) 64))) ||| (BitVec.ofInt 64 (Int.fdiv lo (2 ^ (min (z16 (z13 .u64 (64 - z13 .u64 x1))) 64))))) : Int) * 4294967296) + Int.fdiv (z13 .u64 (lo * 2 ^ (min (z16 (z13 .u64 x1)) 64))) (2 ^ (32))) - z13 .u64 (x2 * z13 .u64 (y * 2 ^ (min (z16 (z13 .u64 x1)) 64)))) * 4294967296) + z13 .u64 (BitVec.toNat (BitVec.ofInt 64 (z13 .u64 (lo * 2 ^ (min (z16 (z13 .u64 x1)) 64))) &&& (BitVec.ofInt 64 4294967295)) : Int)) - z13 .u64 (x4 * z13 .u64 (y * 2 ^ (min (z16 (z13 .u64 x1)) 64))))) (2 ^ (min (z16 (z13 .u64 x1)) 64))))]) [])))))) → k1 x2) → ∃ (I2 : Int → Int → Prop) (f2 : Int → Int → Nat), I2 (z13 .u64 (Int.tdiv (z13 .u64 (BitVec.toNat (BitVec.ofInt 64 (z13 .u64 (hi * 2 ^ (min (z16 (z13 .u64 x1)) 64))) ||| (BitVec.ofInt 64 (Int.fdiv lo (2 ^ (min (z16 (z13 .u64 (64 - z13 .u64 x1))) 64))))) : Int)) (Int.fdiv (z13 .u64 (y * 2 ^ (min (z16 (z13 .u64 x1)) 64))) (2 ^ (32))))) (z13 .u64 (z13 .u64 (BitVec.toNat (BitVec.ofInt 64 (z13 .u64 (hi * 2 ^ (min (z16 (z13 .u64 x1)) 64))) ||| (BitVec.ofInt 64 (Int.fdiv lo (2 ^ (min (z16 (z13 .u64 (64 - z13 .u64 x1))) 64))))) : Int) - z13 .u64 (z13 .u64 (Int.tdiv (z13 .u64 (BitVec.toNat (BitVec.ofInt 64 (z13 .u64 (hi * 2 ^ (min (z16 (z13 .u64 x1)) 64))) ||| (BitVec.ofInt 64 (Int.fdiv lo (2 ^ (min (z16 (z13 .u64 (64 - z13 .u64 x1))) 64))))) : Int)) (Int.fdiv (z13 .u64 (y * 2 ^ (min (z16 (z13 .u64 x1)) 64))) (2 ^ (32)))) * Int.fdiv (z13 .u64 (y * 2 ^ (min (z16 (z13 .u64 x1)) 64))) (2 ^ (32))))) ∧ (∀ x5 : Int, ∀ x6 : Int, I2 x5 x6 → (bif decide (x5 ≥ 4294967296) then (bif decide (z13 .u64 (x6 + Int.fdiv (z13 .u64 (y * 2 ^ (min (z16 (z13 .u64 x1)) 64))) (2 ^ (32))) ≥ 4294967296) then k1 (z13 .u64 (x5 - 1)) else I2 (z13 .u64 (x5 - 1)) (z13 .u64 (x6 + Int.fdiv (z13 .u64 (y * 2 ^ (min (z16 (z13 .u64 x1)) 64))) (2 ^ (32)))) ∧ f2 (z13 .u64 (x5 - 1)) (z13 .u64 (x6 + Int.fdiv (z13 .u64 (y * 2 ^ (min (z16 (z13 .u64 x1)) 64))) (2 ^ (32)))) < f2 x5 x6) else (bif decide (z13 .u64 (x5 * z13 .u64 (BitVec.toNat (BitVec.ofInt 64 (z13 .u64 (y * 2 ^ (min (z16 (z13 .u64 x1)) 64))) &&& (BitVec.ofInt 64 4294967295)) : Int)) > z13 .u64 (z13 .u64 (4294967296 * x6) + Int.fdiv (z13 .u64 (lo * 2 ^ (min (z16 (z13 .u64 x1)) 64))) (2 ^ (32)))) then (bif decide (z13 .u64 (x6 + Int.fdiv (z13 .u64 (y * 2 ^ (min (z16 (z13 .u64 x1)) 64))) (2 ^ (32))) ≥ 4294967296) then k1 (z13 .u64 (x5 - 1)) else I2 (z13 .u64 (x5 - 1)) (z13 .u64 (x6 + Int.fdiv (z13 .u64 (y * 2 ^ (min (z16 (z13 .u64 x1)) 64))) (2 ^ (32)))) ∧ f2 (z13 .u64 (x5 - 1)) (z13 .u64 (x6 + Int.fdiv (z13 .u64 (y * 2 ^ (min (z16 (z13 .u64 x1)) 64))) (2 ^ (32)))) < f2 x5 x6) else k1 x5)))))))))) : Prop)))))) : PRun Tryz.prog 152 [] [.u (.i .u64 hi), .u (.i .u64 lo), .u (.i .u64 y)] Q :=
 zak mixTb Tryz.func152 (by kernel_rfl) (H := ⟨[((152, 17, 0), ⟨[(15, .one (.i .u64)), (16, .one (.i .u64))], []⟩), ((152, 24, 0), ⟨[(16, .one (.i .u64)), (18, .one (.i .u64))], []⟩)], [((152, 21, 0), ⟨[(15, .one (.i .u64))], []⟩)], [], [], [], false, 64, KN.no, false, SP.no⟩) (n := 2) (by kernel_rfl) hh
theorem S181 {x : Int} {Q : V → Mem → Prop} (hh : PRun Tryz.prog 195 [] [.u (.i .u64 x)] (post [.I] [] (fun x1 => (Q (.i (z13 .i64 (64 - x1))) [] : Prop)))) : PRun Tryz.prog 181 [] [.u (.i .u64 x)] Q :=
 zak mixTb Tryz.func181 (by kernel_rfl) (H := ⟨[], [], [], [], [], false, 64, KN.no, false, SP.no⟩) (n := 2) (by kernel_rfl) hh
theorem S195 {x : Int} {Q : V → Mem → Prop} (hh : ∀ k1 : Int → Int → Prop, (∀ x1 : Int, ∀ x2 : Int, (∀ k2 : Int → Int → Prop, (∀ x3 : Int, ∀ x4 : Int, (∀ k3 : Int → Int → Prop, (∀ x5 : Int, ∀ x6 : Int, (0 ≤ z13 .u8 x5 ∧ z13 .u8 x5 < (ByteArray.size (ByteArray.mk #[0, 1, 2, 2, 3, 3, 3, 3, 4, 4, 4, 4, 4, 4, 4, 4, 5, 5, 5, 5, 5, 5, 5, 5, 5, 5, 5, 5, 5, 5, 5, 5, 6, 6, 6, 6, 6, 6, 6, 6, 6, 6, 6, 6, 6, 6, 6, 6, 6, 6, 6, 6, 6, 6, 6, 6, 6, 6, 6, 6, 6, 6, 6, 6, 7, 7, 7, 7, 7, 7, 7, 7, 7, 7, 7, 7, 7, 7, 7, 7, 7, 7, 7, 7, 7, 7, 7, 7, 7, 7, 7, 7, 7, 7, 7, 7, 7, 7, 7, 7, 7, 7, 7, 7, 7, 7, 7, 7, 7, 7, 7, 7, 7, 7, 7, 7, 7, 7, 7, 7, 7, 7, 7, 7, 7, 7, 7, 7, 8, 8, 8, 8, 8, 8, 8, 8, 8, 8, 8, 8, 8, 8, 8, 8, 8, 8, 8, 8, 8, 8, 8, 8, 8, 8, 8, 8, 8, 8, 8, 8, 8, 8, 8, 8, 8, 8, 8, 8, 8, 8, 8, 8, 8, 8, 8, 8, 8, 8, 8, 8, 8, 8, 8, 8, 8, 8, 8, 8, 8, 8, 8, 8, 8, 8, 8, 8, 8, 8, 8, 8, 8, 8, 8, 8, 8, 8, 8, 8, 8, 8, 8, 8, 8, 8, 8, 8, 8, 8, 8, 8, 8, 8, 8, 8, 8, 8, 8, 8, 8, 8, 8, 8, 8, 8, 8, 8, 8, 8, 8, 8, 8, 8, 8, 8, 8, 8, 8, 8, 8, 8, 8, 8, 8, 8, 8, 8]) : Int) ∧ (Q (.i (z13 .i64 (x6 + z13 .i64 (UInt8.toNat (Array.getD (ByteArray.mk #[0, 1, 2, 2, 3, 3, 3, 3, 4, 4, 4, 4, 4, 4, 4, 4, 5, 5, 5, 5, 5, 5, 5, 5, 5, 5, 5, 5, 5, 5, 5, 5, 6, 6, 6, 6, 6, 6, 6, 6, 6, 6, 6, 6, 6, 6, 6, 6, 6, 6, 6, 6, 6, 6, 6, 6, 6, 6, 6, 6, 6, 6, 6, 6, 7, 7, 7, 7, 7, 7, 7, 7, 7, 7, 7, 7, 7, 7, 7, 7, 7, 7, 7, 7, 7, 7, 7, 7, 7, 7, 7, 7, 7, 7, 7, 7, 7, 7, 7, 7, 7, 7, 7, 7, 7, 7, 7, 7, 7, 7, 7, 7, 7, 7, 7, 7, 7, 7, 7, 7, 7, 7, 7, 7, 7, 7, 7, 7, 8, 8, 8, 8, 8, 8, 8, 8, 8, 8, 8, 8, 8, 8, 8, 8, 8, 8, 8, 8, 8, 8, 8, 8, 8, 8, 8, 8, 8, 8, 8, 8, 8, 8, 8, 8, 8, 8, 8, 8, 8, 8, 8, 8, 8, 8, 8, 8, 8, 8, 8, 8, 8, 8, 8, 8, 8, 8, 8, 8, 8, 8, 8, 8, 8, 8, 8, 8, 8, 8, 8, 8, 8, 8, 8, 8, 8, 8, 8, 8, 8, 8, 8, 8, 8, 8, 8, 8, 8, 8, 8, 8, 8, 8, 8, 8, 8, 8, 8, 8, 8, 8, 8, 8, 8, 8, 8, 8, 8, 8, 8, 8, 8, 8, 8, 8, 8, 8, 8, 8, 8, 8, 8, 8, 8, 8, 8, 8]).data (z16 (z13 .u8 x5)) 0) : Int)))) [])) → k3 x5 x6) → (bif decide (x3 ≥ 256) then 0 ≤ (8 : Int) ∧ (k3 (Int.fdiv x3 (2 ^ (8))) (z13 .i64 (x4 + 8))) else k3 x3 x4)) → k2 x3 x4) → (bif decide (x1 ≥ 65536) then 0 ≤ (16 : Int) ∧ (k2 (Int.fdiv x1 (2 ^ (16))) (z13 .i64 (x2 + 16))) else k2 x1 x2)) → k1 x1 x2) → (bif decide (x ≥ 4294967296) then 0 ≤ (32 : Int) ∧ (k1 (Int.fdiv x (2 ^ (32))) 32) else k1 x 0)) : PRun Tryz.prog 195 [] [.u (.i .u64 x)] Q :=
 zak mixTb Tryz.func195 (by kernel_rfl) (H := ⟨[], [((195, 4, 0), ⟨[(0, .one (.i .u64)), (2, .I)], []⟩), ((195, 7, 0), ⟨[(0, .one (.i .u64)), (2, .I)], []⟩), ((195, 10, 0), ⟨[(0, .one (.i .u64)), (2, .I)], []⟩)], [], [], [], false, 64, KN.no, false, SP.no⟩) (n := 2) (by kernel_rfl) hh
end
theorem zho (a b : Nat) : Int.fdiv (a : Int) (b : Int) = ((a / b : Nat) : Int) := by
 rw [z6l _ (z4a b)]; rfl
theorem tdiv_nat (a b : Nat) : Int.tdiv (a : Int) (b : Int) = ((a / b : Nat) : Int) := by
 rw [z6c (z4a a)]; rfl
theorem za0 {x : Int} (h : 0 ≤ x) (h2 : x < 18446744073709551616) : z13 .u64 x = x := by rw [z4f]; omega
theorem or_sum (a b s : Nat) (hb : b < 2 ^ s) : a * 2 ^ s ||| b = a * 2 ^ s + b := by
 have := Nat.shiftLeft_add_eq_or_of_lt hb a
 rw [Nat.shiftLeft_eq] at this
 exact this.symm
theorem bv_or (a b s : Nat) (hb : b < 2 ^ s) (h : a * 2 ^ s + b < 18446744073709551616) : ((BitVec.toNat (BitVec.ofInt 64 ((a * 2 ^ s : Nat) : Int) ||| (BitVec.ofInt 64 (b : Int))) : Nat) : Int) = ((a * 2 ^ s + b : Nat) : Int) := by
 rw [BitVec.toNat_or, z6d, z6d]
 have e1 : (((a * 2 ^ s : Nat) : Int) % ((2 ^ 64 : Nat) : Int)).toNat = a * 2 ^ s := by
  rw [← z5v, z27, z57 (by omega)]
 have e2 : ((b : Int) % ((2 ^ 64 : Nat) : Int)).toNat = b := by
  rw [← z5v, z27, z57 (by omega)]
 rw [e1, e2, or_sum _ _ _ hb]
theorem bv_mask (a : Nat) (h : a < 18446744073709551616) : ((BitVec.toNat (BitVec.ofInt 64 (a : Int) &&& (BitVec.ofInt 64 4294967295)) : Nat) : Int) = ((a % 4294967296 : Nat) : Int) := by
 rw [BitVec.toNat_and, z6d, z6d]
 have e1 : ((a : Int) % ((2 ^ 64 : Nat) : Int)).toNat = a := by
  rw [← z5v, z27, z57 (by omega)]
 rw [e1]
 exact congrArg Nat.cast (Nat.and_two_pow_sub_one_eq_mod a 32)
structure DInv (Y1 Y0 u d q r : Int) : Prop where
 e : r = u - q * Y1
 r0 : 0 ≤ r
 rb : r < 4294967296
 q0 : 0 ≤ q
 qb : q ≤ 4294967297
 up : u * 4294967296 + d < q * Y1 * 4294967296 + q * Y0 + Y1 * 4294967296 + Y0
structure DFin (Y1 Y0 u d q : Int) : Prop where
 q0 : 0 ≤ q
 qb : q < 4294967296
 lo : q * Y1 * 4294967296 + q * Y0 ≤ u * 4294967296 + d
 up : u * 4294967296 + d < q * Y1 * 4294967296 + q * Y0 + Y1 * 4294967296 + Y0
structure DSet (Y1 Y0 u d : Int) : Prop where
 u0 : 0 ≤ u
 uY : u < Y1 * 4294967296 + Y0
 y1 : 2147483648 ≤ Y1
 y1b : Y1 < 4294967296
 y0 : 0 ≤ Y0
 y0b : Y0 < 4294967296
 d0 : 0 ≤ d
 db : d < 4294967296
theorem DSet.init {Y1 Y0 u d : Int} (s : DSet Y1 Y0 u d) : DInv Y1 Y0 u d (u / Y1) (u - (u / Y1) * Y1) := by
 obtain ⟨h1, h2, h3, h4, h5, h6, h7, h8⟩ := s
 have e := z6z u Y1
 have m0 := Int.emod_nonneg u (show Y1 ≠ 0 by omega)
 have m1 := Int.emod_lt_of_pos u (show 0 < Y1 by omega)
 have q0 : 0 ≤ u / Y1 := Int.ediv_nonneg h1 (by omega)
 generalize u / Y1 = q at *
 generalize u % Y1 = r at *
 rw [Int.mul_comm] at e
 have p0 : 0 ≤ q * Y0 := z6n q0 h5
 have qb : q ≤ 4294967297 := by
  refine Int.not_lt.1 fun hq => ?_
  have := z5h (show (4294967298 : Int) ≤ q by omega) (show 0 ≤ Y1 by omega)
  omega
 exact ⟨rfl, by omega, by omega, q0, qb, by omega⟩
theorem DInv.less {Y1 Y0 u d q r : Int} (s : DSet Y1 Y0 u d) (i : DInv Y1 Y0 u d q r) (hc : 4294967296 ≤ q ∨ 4294967296 * r + d < q * Y0) :
 1 ≤ q ∧ u * 4294967296 + d < q * Y1 * 4294967296 + q * Y0 := by
 obtain ⟨h1, h2, h3, h4, h5, h6, h7, h8⟩ := s
 obtain ⟨e, r0, rb, q0, qb, up⟩ := i
 have main : u * 4294967296 + d < q * Y1 * 4294967296 + q * Y0 := by
  rcases hc with hc | hc
  · have a1 := z5h hc (show 0 ≤ Y1 by omega)
    have a2 := z5h hc h5
    omega
  · omega
 refine ⟨?_, main⟩
 refine Int.not_lt.1 fun hq => ?_
 have hq0 : q = 0 := by omega
 subst hq0
 omega
theorem DInv.next {Y1 Y0 u d q r : Int} (s : DSet Y1 Y0 u d) (i : DInv Y1 Y0 u d q r) (hc : 4294967296 ≤ q ∨ 4294967296 * r + d < q * Y0) (hr : r + Y1 < 4294967296) : DInv Y1 Y0 u d (q - 1) (r + Y1) := by
 obtain ⟨a, b⟩ := i.less s hc
 obtain ⟨h1, h2, h3, h4, h5, h6, h7, h8⟩ := s
 obtain ⟨e, r0, rb, q0, qb, up⟩ := i
 have e1 : (q - 1) * Y1 = q * Y1 - Y1 := by rw [z5w, z6e]
 have e0 : (q - 1) * Y0 = q * Y0 - Y0 := by rw [z5w, z6e]
 exact ⟨by omega, by omega, by omega, by omega, by omega, by omega⟩
theorem DFin.qlt {Y1 Y0 u d q : Int} (s : DSet Y1 Y0 u d) (lo : q * Y1 * 4294967296 + q * Y0 ≤ u * 4294967296 + d) : q < 4294967296 := by
 obtain ⟨h1, h2, h3, h4, h5, h6, h7, h8⟩ := s
 apply Int.lt_of_not_ge; intro hq
 have a1 := z5h hq (show 0 ≤ Y1 by omega)
 have a2 := z5h hq h5
 omega
theorem DInv.stop {Y1 Y0 u d q r : Int} (s : DSet Y1 Y0 u d) (i : DInv Y1 Y0 u d q r) (hc : 4294967296 ≤ q ∨ 4294967296 * r + d < q * Y0) (hr : 4294967296 ≤ r + Y1) : DFin Y1 Y0 u d (q - 1) := by
 obtain ⟨a, b⟩ := i.less s hc
 have s' := s
 obtain ⟨h1, h2, h3, h4, h5, h6, h7, h8⟩ := s
 obtain ⟨e, r0, rb, q0, qb, up⟩ := i
 have e1 : (q - 1) * Y1 = q * Y1 - Y1 := by rw [z5w, z6e]
 have e0 : (q - 1) * Y0 = q * Y0 - Y0 := by rw [z5w, z6e]
 have a2 := z5h (show q - 1 ≤ 4294967296 by omega) h5
 have lo : (q - 1) * Y1 * 4294967296 + (q - 1) * Y0 ≤ u * 4294967296 + d := by omega
 exact ⟨by omega, DFin.qlt s' lo, lo, by omega⟩
theorem DInv.fin {Y1 Y0 u d q r : Int} (s : DSet Y1 Y0 u d) (i : DInv Y1 Y0 u d q r) (hq : q < 4294967296) (hc : q * Y0 ≤ 4294967296 * r + d) : DFin Y1 Y0 u d q :=
 ⟨i.q0, hq, by have := i.e; omega, i.up⟩
def tab8 : ByteArray := ByteArray.mk #[0, 1, 2, 2, 3, 3, 3, 3, 4, 4, 4, 4, 4, 4, 4, 4, 5, 5, 5, 5, 5, 5, 5, 5, 5, 5, 5, 5, 5, 5, 5, 5, 6, 6, 6, 6, 6, 6, 6, 6, 6, 6, 6, 6, 6, 6, 6, 6, 6, 6, 6, 6, 6, 6, 6, 6, 6, 6, 6, 6, 6, 6, 6, 6, 7, 7, 7, 7, 7, 7, 7, 7, 7, 7, 7, 7, 7, 7, 7, 7, 7, 7, 7, 7, 7, 7, 7, 7, 7, 7, 7, 7, 7, 7, 7, 7, 7, 7, 7, 7, 7, 7, 7, 7, 7, 7, 7, 7, 7, 7, 7, 7, 7, 7, 7, 7, 7, 7, 7, 7, 7, 7, 7, 7, 7, 7, 7, 7, 8, 8, 8, 8, 8, 8, 8, 8, 8, 8, 8, 8, 8, 8, 8, 8, 8, 8, 8, 8, 8, 8, 8, 8, 8, 8, 8, 8, 8, 8, 8, 8, 8, 8, 8, 8, 8, 8, 8, 8, 8, 8, 8, 8, 8, 8, 8, 8, 8, 8, 8, 8, 8, 8, 8, 8, 8, 8, 8, 8, 8, 8, 8, 8, 8, 8, 8, 8, 8, 8, 8, 8, 8, 8, 8, 8, 8, 8, 8, 8, 8, 8, 8, 8, 8, 8, 8, 8, 8, 8, 8, 8, 8, 8, 8, 8, 8, 8, 8, 8, 8, 8, 8, 8, 8, 8, 8, 8, 8, 8, 8, 8, 8, 8, 8, 8, 8, 8, 8, 8, 8, 8, 8, 8, 8, 8, 8, 8]
theorem zyz : ∀ n : Fin 256, 1 ≤ n.1 → 1 ≤ (Array.getD tab8.data n.1 0).toNat ∧ (Array.getD tab8.data n.1 0).toNat ≤ 8 ∧ 2 ^ ((Array.getD tab8.data n.1 0).toNat - 1) ≤ n.1 ∧ n.1 < 2 ^ (Array.getD tab8.data n.1 0).toNat := by decide +kernel
theorem zy0 : tab8.size = 256 := by decide +kernel
theorem z11 {x m y : Nat} (h : x / 2 ^ m = y) {L : Nat} (h1 : 2 ^ (L - 1) ≤ y) (h2 : y < 2 ^ L) (hL : 1 ≤ L) : 2 ^ (m + L - 1) ≤ x ∧ x < 2 ^ (m + L) := by
 have hp := z6f m
 subst h
 constructor
 · rw [show m + L - 1 = (L - 1) + m by omega, z41]
   exact (Nat.le_div_iff_mul_le hp).1 h1
 · rw [Nat.add_comm, z41]
   exact (Nat.div_lt_iff_lt_mul hp).1 h2
theorem len64_S {x : Nat} (hx : x < 18446744073709551616) (h1 : 1 ≤ x) {R : V → Mem → Prop}
 (k : ∀ n : Nat, 1 ≤ n → n ≤ 64 → 2 ^ (n - 1) ≤ x → x < 2 ^ n → R (.i (n : Int)) []) : PRun Tryz.prog 195 [] [.u (.i .u64 (x : Int))] R := by
 refine S195 ?_
 intro k1 hk1
 have H1 : ∀ (m y : Nat), x / 2 ^ m = y → 1 ≤ y → y < 4294967296 → m ≤ 32 → k1 (y : Int) (m : Int) := by
  intro m y hy y1 yb hm
  refine hk1 _ _ fun k2 hk2 => ?_
  have H2 : ∀ (m y : Nat), x / 2 ^ m = y → 1 ≤ y → y < 65536 → m ≤ 48 → k2 (y : Int) (m : Int) := by
   intro m y hy y1 yb hm
   refine hk2 _ _ fun k3 hk3 => ?_
   have H3 : ∀ (m y : Nat), x / 2 ^ m = y → 1 ≤ y → y < 256 → m ≤ 56 → k3 (y : Int) (m : Int) := by
    intro m y hy y1 yb hm
    refine hk3 _ _ ?_
    have ey : z13 .u8 (y : Int) = (y : Int) := by
     simp [z13, IntKind.bits, IntKind.signed]; omega
    obtain ⟨t1, t2, t3, t4⟩ := zyz ⟨y, yb⟩ y1
    change 0 ≤ z13 .u8 (y : Int) ∧ z13 .u8 (y : Int) < ((ByteArray.size tab8 : Nat) : Int) ∧ R (.i (z13 .i64 ((m : Int) + z13 .i64 (((Array.getD tab8.data (z16 (z13 .u8 (y : Int))) 0).toNat : Nat) : Int)))) []
    rw [ey, z27]
    generalize (Array.getD tab8.data y 0).toNat = L at *
    refine ⟨by omega, by rw [zy0]; omega, ?_⟩
    rw [w64 (x := (L : Int)) (by omega) (by omega), w64 (by omega) (by omega), ← z5g]
    obtain ⟨r1, r2⟩ := z11 hy t3 t4 t1
    exact k _ (by omega) (by omega) r1 r2
   refine cIf (fun hc => ?_) fun hc => H3 m y hy y1 (by omega) (by omega)
   refine ⟨by decide, ?_⟩
   rw [show (2 : Int) ^ 8 = ((256 : Nat) : Int) from rfl, zho, w64 (by omega) (by omega), show (m : Int) + 8 = ((m + 8 : Nat) : Int) by omega]
   exact H3 _ _ (by rw [z41, ← z60, hy]) (by omega) (by omega) (by omega)
  refine cIf (fun hc => ?_) fun hc => H2 m y hy y1 (by omega) (by omega)
  refine ⟨by decide, ?_⟩
  rw [show (2 : Int) ^ 16 = ((65536 : Nat) : Int) from rfl, zho, w64 (by omega) (by omega), show (m : Int) + 16 = ((m + 16 : Nat) : Int) by omega]
  exact H2 _ _ (by rw [z41, ← z60, hy]) (by omega) (by omega) (by omega)
 refine cIf (fun hc => ?_) fun hc => H1 0 x (by simp) h1 (by omega) (by omega)
 refine ⟨by decide, ?_⟩
 rw [show (2 : Int) ^ 32 = ((4294967296 : Nat) : Int) from rfl, zho]
 exact H1 32 _ rfl (by omega) (by omega) (by omega)
theorem lead64_S {x : Nat} (hx : x < 18446744073709551616) (h1 : 1 ≤ x) {R : V → Mem → Prop}
 (k : ∀ s : Nat, s ≤ 63 → 9223372036854775808 ≤ x * 2 ^ s → x * 2 ^ s < 18446744073709551616 → R (.i (s : Int)) []) : PRun Tryz.prog 181 [] [.u (.i .u64 (x : Int))] R := by
 refine S181 ?_
 refine len64_S hx h1 fun n n1 n2 a b => ?_
 rw [zax, w64 (by omega) (by omega), show 64 - (n : Int) = ((64 - n : Nat) : Int) by omega]
 have hp := z6f (64 - n)
 refine k _ (by omega) ?_ ?_
 · have := z3e (2 ^ (64 - n)) a
   rw [← z41, show n - 1 + (64 - n) = 63 by omega] at this
   exact this
 · have := Nat.mul_lt_mul_of_pos_right b hp
   rw [← z41, show n + (64 - n) = 64 by omega] at this
   exact this
theorem zt4 {hi lo y s : Nat} (hs : s ≤ 63) (hlo : lo < 18446744073709551616) (hh : hi < y) (b : y * 2 ^ s < 18446744073709551616) :
 ∃ c L : Nat, lo / 2 ^ (64 - s) = c ∧ c < 2 ^ s ∧ lo * 2 ^ s % 18446744073709551616 = L ∧ hi * 2 ^ s + c < y * 2 ^ s ∧ (hi * 2 ^ s + c) * 18446744073709551616 + L = (hi * 18446744073709551616 + lo) * 2 ^ s := by
 refine ⟨_, _, rfl, ?_, rfl, ?_, ?_⟩
 all_goals have hp := z6f s
 all_goals have e64 : 2 ^ (64 - s) * 2 ^ s = 18446744073709551616 := by rw [← z41, show 64 - s + s = 64 by omega]
 all_goals have hc : lo / 2 ^ (64 - s) < 2 ^ s := Nat.div_lt_of_lt_mul (by rw [e64]; exact hlo)
 · exact hc
 · have := z3e (2 ^ s) (show hi + 1 ≤ y by omega)
   rw [z24] at this
   omega
 · have e1 : lo / 2 ^ (64 - s) = lo * 2 ^ s / 18446744073709551616 := by rw [← e64, Nat.mul_div_mul_right _ _ hp]
   have e2 := Nat.div_add_mod (lo * 2 ^ s) 18446744073709551616
   rw [e1, z3i, z3i (hi * 18446744073709551616), Nat.mul_right_comm hi 18446744073709551616]
   omega
theorem wsub {X p r : Int} (h : X - p = r) (h0 : 0 ≤ r) (h1 : r < 18446744073709551616) {A P : Int} (hA : A % 18446744073709551616 = X % 18446744073709551616) (hP : P % 18446744073709551616 = p % 18446744073709551616) : z13 .u64 (A - P) = r := by
 rw [z4f, Int.sub_emod, hA, hP, ← Int.sub_emod, h]; omega
set_option maxRecDepth 20000 in
theorem z12 {hi lo y : Nat} (hy : y < 18446744073709551616) (hlo : lo < 18446744073709551616) (hh : hi < y) {R : V → Mem → Prop}
 (k : ∀ Q r : Nat, Q < 18446744073709551616 → r < y → Q * y + r = hi * 18446744073709551616 + lo → R (.t [.u (.i .u64 (Q : Int)), .u (.i .u64 (r : Int))]) []) :
 PRun Tryz.prog 152 [] [.u (.i .u64 (hi : Int)), .u (.i .u64 (lo : Int)), .u (.i .u64 (y : Int))] R := by
 refine S152 ?_
 refine cB (fun e => by simp at e; omega) (fun _ => ?_)
 refine cIf (fun hc => by omega) (fun _ => ?_)
 refine cB (fun e => ?_) (fun _ => ?_)
 · have e0 : hi = 0 := by simpa using e
   subst e0
   refine ⟨by omega, by omega, ?_⟩
   rw [tdiv_nat, za0 (z4a _) (z5e.2 (Nat.lt_of_le_of_lt (Nat.div_le_self lo y) hlo))]
   have := k (lo / y) (lo % y) (by have := Nat.div_le_self lo y; omega) (Nat.mod_lt _ hh) (by rw [Nat.mul_comm, Nat.div_add_mod]; omega)
   rw [z5v] at this
   rw [Int.tmod_eq_emod_of_nonneg (by omega)]
   exact this
 refine lead64_S hy (by omega) fun s hs a b => ?_
 rw [zax]
 obtain ⟨c, L, ec, hc, eL, hU, eN⟩ := zt4 hs hlo hh b
 have es : z13 .u64 (s : Int) = (s : Int) := za0 (by omega) (by omega)
 have em : min (z16 (s : Int)) 64 = s := by omega
 have es2 : z13 .u64 (64 - (s : Int)) = ((64 - s : Nat) : Int) := by rw [za0 (by omega) (by omega)]; omega
 have em2 : min (z16 ((64 - s : Nat) : Int)) 64 = 64 - s := by omega
 have eY : (y : Int) * 2 ^ s = ((y * 2 ^ s : Nat) : Int) := by push_cast; rfl
 have eY2 : z13 .u64 ((y * 2 ^ s : Nat) : Int) = ((y * 2 ^ s : Nat) : Int) := za0 (by omega) (by omega)
 have eH : (hi : Int) * 2 ^ s = ((hi * 2 ^ s : Nat) : Int) := by push_cast; rfl
 have eH2 : z13 .u64 ((hi * 2 ^ s : Nat) : Int) = ((hi * 2 ^ s : Nat) : Int) := za0 (by omega) (by omega)
 have eC : Int.fdiv (lo : Int) (2 ^ (64 - s)) = (c : Int) := by
  have := zho lo (2 ^ (64 - s)); rw [ec] at this; rw [← this]; push_cast; rfl
 have eO := bv_or hi c s hc (by omega)
 have eO2 : z13 .u64 ((hi * 2 ^ s + c : Nat) : Int) = ((hi * 2 ^ s + c : Nat) : Int) := za0 (by omega) (by omega)
 have eL2 : z13 .u64 ((lo : Int) * 2 ^ s) = (L : Int) := by
  rw [z4f, ← eL, z5v, z42, Int.natCast_pow]; rfl
 have hL : L < 18446744073709551616 := by omega
 have ek : ∀ x : Nat, Int.fdiv (x : Int) (2 ^ 32) = ((x / 4294967296 : Nat) : Int) := fun x => zho x 4294967296
 simp only [es, em, es2, em2, eY, eY2, eH, eH2, eC, eO, eO2, eL2, ek]
 have hY := b
 have eY1 := bv_mask (y * 2 ^ s) b
 have eL1 := bv_mask L hL
 have eY3 : z13 .u64 ((y * 2 ^ s % 4294967296 : Nat) : Int) = ((y * 2 ^ s % 4294967296 : Nat) : Int) := za0 (by omega) (by omega)
 have eL3 : z13 .u64 ((L % 4294967296 : Nat) : Int) = ((L % 4294967296 : Nat) : Int) := za0 (by omega) (by omega)
 simp only [eY1, eL1, eY3, eL3]
 generalize hi * 2 ^ s + c = U at *
 generalize eYY : y * 2 ^ s = Y at *
 have fY1 : (Y : Int) = ((Y / 4294967296 : Nat) : Int) * 4294967296 + ((Y % 4294967296 : Nat) : Int) := by omega
 have fL1 : (L : Int) = ((L / 4294967296 : Nat) : Int) * 4294967296 + ((L % 4294967296 : Nat) : Int) := by omega
 have fY2 : (2147483648 : Int) ≤ ((Y / 4294967296 : Nat) : Int) := by omega
 have fY3 : ((Y / 4294967296 : Nat) : Int) < 4294967296 := by omega
 have fY4 : (0 : Int) ≤ ((Y % 4294967296 : Nat) : Int) := by omega
 have fY5 : ((Y % 4294967296 : Nat) : Int) < 4294967296 := by omega
 have fL2 : (0 : Int) ≤ ((L / 4294967296 : Nat) : Int) := by omega
 have fL3 : ((L / 4294967296 : Nat) : Int) < 4294967296 := by omega
 have fL4 : (0 : Int) ≤ ((L % 4294967296 : Nat) : Int) := by omega
 have fL5 : ((L % 4294967296 : Nat) : Int) < 4294967296 := by omega
 have eNi : (U : Int) * 18446744073709551616 + L = ((hi : Int) * 18446744073709551616 + lo) * ((2 ^ s : Nat) : Int) := by
  have := congrArg (Nat.cast : Nat → Int) eN
  rw [z5g, z42, z42, z5g, z42] at this
  exact this
 have eYi : (Y : Int) = (y : Int) * ((2 ^ s : Nat) : Int) := by rw [← eYY]; push_cast; rfl
 have ps : (0 : Int) < ((2 ^ s : Nat) : Int) := Int.natCast_pos.2 (z6f s)
 have u0 : (0 : Int) ≤ (U : Int) := z4a _
 have uY : (U : Int) < (Y : Int) := z5e.2 hU
 clear eY1 eL1 eY eYY eN eO eL2 eC eH eH2 em em2 es2 ec hc eL ek a
 have e2s : (2 : Int) ^ s = ((2 ^ s : Nat) : Int) := by push_cast; rfl
 simp only [e2s]
 clear e2s
 have hYb : (Y : Int) < 18446744073709551616 := by omega
 generalize ((2 ^ s : Nat) : Int) = S at *
 generalize ((Y / 4294967296 : Nat) : Int) = Y1 at *
 generalize ((Y % 4294967296 : Nat) : Int) = Y0 at *
 generalize ((L / 4294967296 : Nat) : Int) = L1 at *
 generalize ((L % 4294967296 : Nat) : Int) = L0 at *
 generalize (U : Int) = u at *
 refine ⟨by omega, by decide, by omega, by omega, by omega, by decide, by omega, fun k1 hk1 => ?_⟩
 have qY : ∀ q : Int, q * (Y : Int) = q * Y1 * 4294967296 + q * Y0 := fun q => by rw [fY1, Int.mul_add, Int.mul_assoc]
 have D1 : DSet Y1 Y0 u L1 := ⟨u0, by omega, fY2, fY3, fY4, fY5, fL2, fL3⟩
 have qp : ∀ {q : Int}, 0 ≤ q → q ≤ 4294967297 → 0 ≤ q * Y0 ∧ q * Y0 < 18446744073709551616 := by
  intro q a b
  have h1 := z6n a fY4
  have h2 := Int.mul_le_mul b (show Y0 ≤ 4294967295 by omega) fY4 (by omega)
  exact ⟨h1, by omega⟩
 have ini : ∀ {v d : Int}, DSet Y1 Y0 v d → z13 .u64 (Int.tdiv v Y1) = v / Y1 ∧ z13 .u64 (v - z13 .u64 (v / Y1 * Y1)) = v - v / Y1 * Y1 := by
  intro v d D
  have I := D.init
  have a := z6z v Y1
  have m0 := Int.emod_nonneg v (show Y1 ≠ 0 by omega)
  rw [Int.mul_comm] at a
  have hv := D.u0
  have hv2 := D.uY
  have q0 := I.q0
  have qb := I.qb
  have r0 := I.r0
  have rb := I.rb
  have tq : Int.tdiv v Y1 = v / Y1 := z6c hv
  rw [tq]
  have p0 := z6n q0 (show 0 ≤ Y1 by omega)
  generalize v / Y1 = q at *
  refine ⟨za0 q0 (by omega), ?_⟩
  rw [za0 (x := q * Y1) p0 (by omega)]
  exact za0 r0 (by omega)
 have H1 : ∀ q : Int, DFin Y1 Y0 u L1 q → k1 q := by
  intro q F
  refine hk1 q ⟨by omega, ?_⟩
  have Flo := F.lo
  have Fup := F.up
  have Fq0 := F.q0
  have Fqb := F.qb
  rw [← qY] at Flo Fup
  obtain ⟨u2, eu2⟩ : ∃ u2 : Int, u2 = u * 4294967296 + L1 - q * (Y : Int) := ⟨_, rfl⟩
  have eu : z13 .u64 (z13 .u64 (z13 .u64 (u * 4294967296) + L1) - z13 .u64 (q * (Y : Int))) = u2 :=
   wsub (X := u * 4294967296 + L1) (p := q * (Y : Int)) eu2.symm (by omega) (by omega) (by rw [z4f, z4f]; omega) (by rw [z4f]; omega)
  have D2 : DSet Y1 Y0 u2 L0 := ⟨by omega, by omega, fY2, fY3, fY4, fY5, fL4, fL5⟩
  obtain ⟨i1, i2⟩ := ini D2
  have hfin : ∀ q2 : Int, DFin Y1 Y0 u2 L0 q2 → R (.t [.u (.i .u64 (z13 .u64 (z13 .u64 (q * 4294967296) + q2))), .u (.i .u64 (Int.fdiv (z13 .u64 (z13 .u64 (z13 .u64 (u2 * 4294967296) + L0) - z13 .u64 (q2 * (Y : Int)))) S))]) [] := by
   intro q2 F2
   have Glo := F2.lo
   have Gup := F2.up
   have Gq0 := F2.q0
   have Gqb := F2.qb
   rw [← qY] at Glo Gup
   obtain ⟨r2, er2⟩ : ∃ r2 : Int, r2 = u2 * 4294967296 + L0 - q2 * (Y : Int) := ⟨_, rfl⟩
   rw [wsub (r := r2) (X := u2 * 4294967296 + L0) (p := q2 * (Y : Int)) er2.symm (by omega) (by omega) (by rw [z4f, z4f]; omega) (by rw [z4f]; omega)]
   rw [za0 (x := q * 4294967296) (by omega) (by omega), za0 (by omega) (by omega)]
   have er : r2 = ((hi : Int) * 18446744073709551616 + lo - (q * 4294967296 + q2) * y) * S := by
    rw [z5w, ← eNi, Int.mul_assoc, ← eYi, Int.add_mul, Int.mul_right_comm q]
    omega
   have hr0 : 0 ≤ r2 := by omega
   have hr1 : r2 < (Y : Int) := by omega
   rw [er, z6l _ (by omega), Int.mul_ediv_cancel _ (by omega)]
   rw [er, eYi] at hr1
   rw [er] at hr0
   have t0 := Int.nonneg_of_mul_nonneg_left hr0 ps
   have t1 := Int.lt_of_mul_lt_mul_right hr1 (Int.le_of_lt ps)
   obtain ⟨Q, eQ⟩ := z4e (show 0 ≤ q * 4294967296 + q2 by omega)
   rw [eQ] at t0 t1 ⊢
   obtain ⟨r, er'⟩ := z4e t0
   rw [er'] at t1 ⊢
   refine k Q r (by omega) (by omega) ?_
   have : (Q : Int) * y + r = (hi : Int) * 18446744073709551616 + lo := by omega
   refine Int.ofNat_inj.1 ?_
   rw [z5g, z42, z5g, z42]
   exact this
  simp only [eu, i1, i2]
  refine ⟨fun r q => DInv Y1 Y0 u2 L0 q r, fun r q => q.toNat, D2.init, ?_⟩
  rintro r q2 I
  have i1 := I.r0
  have i2 := I.rb
  have i3 := I.q0
  have i4 := I.qb
  obtain ⟨i5, i6⟩ := qp i3 i4
  rw [za0 (x := q2 * Y0) i5 i6, za0 (x := r + Y1) (by omega) (by omega), za0 (x := 4294967296 * r) (by omega) (by omega), za0 (x := 4294967296 * r + L0) (by omega) (by omega)]
  have go : 4294967296 ≤ q2 ∨ 4294967296 * r + L0 < q2 * Y0 → cond (decide (r + Y1 ≥ 4294967296)) (0 ≤ (s : Int) ∧ R (.t [.u (.i .u64 (z13 .u64 (z13 .u64 (q * 4294967296) + z13 .u64 (q2 - 1)))), .u (.i .u64 (Int.fdiv (z13 .u64 (z13 .u64 (z13 .u64 (u2 * 4294967296) + L0) - z13 .u64 (z13 .u64 (q2 - 1) * (Y : Int)))) S))]) []) (DInv Y1 Y0 u2 L0 (z13 .u64 (q2 - 1)) (r + Y1) ∧ (z13 .u64 (q2 - 1)).toNat < q2.toNat) := by
   intro hc
   have l1 := (I.less D2 hc).1
   rw [za0 (x := q2 - 1) (by omega) (by omega)]
   exact cIf (fun hr => ⟨by omega, hfin _ (I.stop D2 hc hr)⟩) fun hr => ⟨I.next D2 hc (by omega), by omega⟩
  refine cIf (fun hc => go (.inl hc)) fun hc => cIf (fun hd => go (.inr hd)) fun hd => ?_
  exact ⟨by omega, hfin _ (I.fin D2 (by omega) (by omega))⟩
 obtain ⟨i1, i2⟩ := ini D1
 simp only [i1, i2]
 refine ⟨fun q r => DInv Y1 Y0 u L1 q r, fun q r => q.toNat, D1.init, ?_⟩
 rintro q r I
 have i1 := I.r0
 have i2 := I.rb
 have i3 := I.q0
 have i4 := I.qb
 obtain ⟨i5, i6⟩ := qp i3 i4
 rw [za0 (x := q * Y0) i5 i6, za0 (x := r + Y1) (by omega) (by omega), za0 (x := 4294967296 * r) (by omega) (by omega), za0 (x := 4294967296 * r + L1) (by omega) (by omega)]
 have go : 4294967296 ≤ q ∨ 4294967296 * r + L1 < q * Y0 → cond (decide (r + Y1 ≥ 4294967296)) (k1 (z13 .u64 (q - 1))) (DInv Y1 Y0 u L1 (z13 .u64 (q - 1)) (r + Y1) ∧ (z13 .u64 (q - 1)).toNat < q.toNat) := by
  intro hc
  have l1 := (I.less D1 hc).1
  rw [za0 (x := q - 1) (by omega) (by omega)]
  exact cIf (fun hr => H1 _ (I.stop D1 hc hr)) fun hr => ⟨I.next D1 hc (by omega), by omega⟩
 refine cIf (fun hc => go (.inl hc)) fun hc => cIf (fun hd => go (.inr hd)) fun hd => ?_
 exact H1 _ (I.fin D1 (by omega) (by omega))
section
set_option maxRecDepth 100000
theorem mixTf : Tryz.prog.follows .mixedOrders = true := by kernel_rfl
theorem S89 {f_0 : Int} {f_1 : Int} {f_2 : Int} {worth : Int} {Q : V → Mem → Prop} (hh : PRun Tryz.prog 104 [] [.a [.i f_0, .i f_1, .i f_2]] (post [.I] [] (fun x1 => (bif x1 != 0 then Q (.t [.i 0, .i 1]) [] else PRun Tryz.prog 105 [] [.i worth] (post [.B] [] (fun b1 => (bif !b1 then Q (.t [.i 0, .i 1]) [] else PRun Tryz.prog 106 [] [.i worth, .i f_0, .i 10000, .u (.b true)] (post [.I, .I] [] (fun x2 x3 => (Q (.t [.i (if f_1 > x2 then f_1 else x2), .i x3]) [] : Prop))) : Prop))) : Prop)))) : PRun Tryz.prog 89 [] [.a [.i f_0, .i f_1, .i f_2], .i worth] Q :=
 zak mixTf Tryz.func89 (by kernel_rfl) (H := ⟨[], [], [], [], [], false, 64, KN.no, false, SP.no⟩) (n := 2) (by kernel_rfl) hh
theorem S51 {f_0 : Int} {f_1 : Int} {f_2 : Int} {price : Int} {Q : V → Mem → Prop} (hh : PRun Tryz.prog 104 [] [.a [.i f_0, .i f_1, .i f_2]] (post [.I] [] (fun x1 => (bif x1 != 0 then Q (.t [.i 0, .i 1]) [] else PRun Tryz.prog 105 [] [.i price] (post [.B] [] (fun b1 => (bif !b1 then Q (.t [.i 0, .i 1]) [] else PRun Tryz.prog 106 [] [.i price, .i f_2, .i 10000, .u (.b false)] (post [.I, .I] [] (fun x2 x3 => (Q (.t [.i x2, .i x3]) [] : Prop))) : Prop))) : Prop)))) : PRun Tryz.prog 51 [] [.a [.i f_0, .i f_1, .i f_2], .i price] Q :=
 zak mixTf Tryz.func51 (by kernel_rfl) (H := ⟨[], [], [], [], [], false, 64, KN.no, false, SP.no⟩) (n := 2) (by kernel_rfl) hh
end
section
set_option maxRecDepth 100000
theorem mixTh1 : Tryz.prog.follows .mixedOrders = true := by kernel_rfl
theorem S56 {s : List (List U)} {Q : V → Mem → Prop} (hh : bif List.isEmpty s then ((Q (.l 2 []) [] : Prop) ∧ (zbo [] s ∧ (match s with | _ :: _ => (Q (.l 2 ([] ++ s)) []) | [] => (Q (.c 2 []) []) : Prop) : Prop)) else (zbo [] s ∧ (match s with | _ :: _ => (Q (.l 2 ([] ++ s)) []) | [] => (Q (.c 2 []) []) : Prop) : Prop)) : PRun Tryz.prog 56 [] [.l 2 s] Q :=
 zak mixTh1 Tryz.func56 (by kernel_rfl) (H := ⟨[], [], [], [], [], false, 64, KN.no, false, SP.no⟩) (n := 2) (by kernel_rfl) hh
end
section
set_option maxRecDepth 100000
theorem zra : Tryz.prog.follows .mixedOrders = true := by kernel_rfl
theorem S39 {c_0 : Int} {c_1 : List (List U)} {c_2 : Int} {c_3 : List (List U)} {c_4 : Int} {c_5 : Int} {c_6 : Int} {c_7 : Int} {p : List (List U)} {pn : Int} {b : List (List U)} {bt : List Int} {G : Ob} {L : Ob} {ds : List (List U)} {xo : Int} {xd : Int} {xp : Int} {xt : Int} {l : List (List U)} {Q : V → Mem → Prop} (hh : ∃ (I1 : Int → List (List U) → List Int → Int → Int → Int → Int → Prop) (f1 : Int → List (List U) → List Int → Int → Int → Int → Int → Nat), I1 0 b bt xo xd xp xt ∧ (∀ x1 : Int, ∀ l1 : List (List U), ∀ a1 : List Int, ∀ x2 : Int, ∀ x3 : Int, ∀ x4 : Int, ∀ x5 : Int, I1 x1 l1 a1 x2 x3 x4 x5 → (bif decide (x1 < (z15 l : Int)) then elL l x1 (fun r1 => dI .i64 (ug r1 0) (fun x6 => dI .i64 (ug r1 1) (fun x7 => PRun Tryz.prog 63 [.c [.l 5 l1, .n .i64 33 a1]] [.r 0 0, .a [.i x2, .i x3, .i x4, .i x6]] (post [.I] [.c [.l 5, .n 33]] (fun x8 l2 a2 => (bif decide (x8 < x7) then Q (.u (.b (!(decide (x1 ≥ 0))))) (Mx5 c_0 c_1 c_2 c_3 c_4 c_5 c_6 c_7 p pn l2 a2 G L ds) else I1 (z13 .i64 (x1 + 1)) l2 a2 x2 x3 x4 x6 ∧ f1 (z13 .i64 (x1 + 1)) l2 a2 x2 x3 x4 x6 < f1 x1 l1 a1 x2 x3 x4 x5 : Prop)))))) else Q (.u (.b true)) (Mx5 c_0 c_1 c_2 c_3 c_4 c_5 c_6 c_7 p pn l1 a1 G L ds)))) : PRun Tryz.prog 39 (Mx5 c_0 c_1 c_2 c_3 c_4 c_5 c_6 c_7 p pn b bt G L ds) [.r 0 0, .a [.i xo, .i xd, .i xp, .i xt], .l 2 l] Q :=
 zak zra Tryz.func39 (by kernel_rfl) (H := ⟨[((140, 2, 8), ⟨[(8, .I)], [(2, .c [.l 5, .n 33]), (7, .c [.i .i64, .i .i64, .i .i64, .i .i64])]⟩)], [], [90, 91, 140], [], [], false, 64, KN.no, false, SP.no⟩) (n := 5) (by kernel_rfl) hh
theorem S36 {c_0 : Int} {c_1 : List (List U)} {c_2 : Int} {c_3 : List (List U)} {c_4 : Int} {c_5 : Int} {c_6 : Int} {c_7 : Int} {p : List (List U)} {pn : Int} {b : List (List U)} {bt : List Int} {G : Ob} {L : Ob} {ds : List (List U)} {now : Int} {d_id : Int} {d_kind : Int} {d_iss : Int} {d_div : Int} {d_bye : Int} {d_to : Int} {d_place : Int} {d_dest : Int} {d_pay : Int} {d_pledge : Int} {d_lasts : Int} {d_days : Int} {d_fee : Int} {d_gives : List (List U)} {d_wants : List (List U)} {d_st : Int} {d_due : Int} {d_taker : Int} {d_into : Int} {Q : V → Mem → Prop} (hh : PRun Tryz.prog 56 [] [.l 2 d_gives] (post [.L 2] [] (fun l1 => (PRun Tryz.prog 56 [] [.l 2 d_wants] (post [.L 2] [] (fun l2 => (PRun Tryz.prog 87 [] [.a [.i (z13 .i64 ((z15 ds : Int) + 1)), .i d_kind, .i d_iss, .i d_div, .i d_bye, .i d_to, .i d_place, .i d_dest, .i d_pay, .i d_pledge, .i d_lasts, .i d_days, .i 0, .l 2 l1, .l 2 l2, .i d_st, .i d_due, .i d_taker, .i d_into], .i now] (post [pDx, .I] [] (fun x1 x2 x3 x4 x5 x6 x7 x8 x9 x10 x11 x12 x13 l3 l4 x14 x15 x16 x17 x18 => (bif x18 != 0 then Q (.t [aDx x1 x2 x3 x4 x5 x6 x7 x8 x9 x10 x11 x12 x13 l3 l4 x14 x15 x16 x17, .i 1]) (Mx5 c_0 c_1 c_2 c_3 c_4 c_5 c_6 c_7 p pn b bt G L ds) else (bif decide ((if x8 > x7 then x8 else x7) > c_2) then Q (.t [aDx x1 x2 x3 x4 x5 x6 x7 x8 x9 x10 x11 x12 x13 l3 l4 x14 x15 x16 x17, .i 1]) (Mx5 c_0 c_1 c_2 c_3 c_4 c_5 c_6 c_7 p pn b bt G L ds) else PRun Tryz.prog 88 [] [.l 2 l3, .i c_0] (post [.I] [] (fun x19 => (bif x19 != 0 then Q (.t [aDx x1 x2 x3 x4 x5 x6 x7 x8 x9 x10 x11 x12 x13 l3 l4 x14 x15 x16 x17, .i 1]) (Mx5 c_0 c_1 c_2 c_3 c_4 c_5 c_6 c_7 p pn b bt G L ds) else PRun Tryz.prog 88 [] [.l 2 l4, .i c_0] (post [.I] [] (fun x20 => (bif x20 != 0 then Q (.t [aDx x1 x2 x3 x4 x5 x6 x7 x8 x9 x10 x11 x12 x13 l3 l4 x14 x15 x16 x17, .i 1]) (Mx5 c_0 c_1 c_2 c_3 c_4 c_5 c_6 c_7 p pn b bt G L ds) else ∀ k1 : List (List U) → Int → Int → Int → Int → Int → Int → Int → Int → Int → Int → Int → Int → Int → Int → List (List U) → List (List U) → Int → Int → Int → Int → Prop, (∀ l5 : List (List U), ∀ x21 : Int, ∀ x22 : Int, ∀ x23 : Int, ∀ x24 : Int, ∀ x25 : Int, ∀ x26 : Int, ∀ x27 : Int, ∀ x28 : Int, ∀ x29 : Int, ∀ x30 : Int, ∀ x31 : Int, ∀ x32 : Int, ∀ x33 : Int, ∀ x34 : Int, ∀ l6 : List (List U), ∀ l7 : List (List U), ∀ x35 : Int, ∀ x36 : Int, ∀ x37 : Int, ∀ x38 : Int, ((bif decide (x1 > 64) then Q (.t [aDx x1 x2 x3 x4 x5 x6 x7 x8 x9 x10 x11 x12 x13 l3 l4 x14 x15 x16 x17, .i 4]) (Mx5 c_0 c_1 c_2 c_3 c_4 c_5 c_6 c_7 l5 x21 b bt G L ds) else PRun Tryz.prog 89 [] [.a [.i c_5, .i c_6, .i c_7], .i (z13 .i64 (x9 + x10))] (post [.I, .I] [] (fun x39 x40 => (bif x40 != 0 then Q (.t [aDx x1 x2 x3 x4 x5 x6 x7 x8 x9 x10 x11 x12 x39 l3 l4 x14 x15 x16 x17, .i 5]) (Mx5 c_0 c_1 c_2 c_3 c_4 c_5 c_6 c_7 l5 x21 b bt G L ds) else Q (.t [aDx x1 x2 x3 x4 x5 x6 x7 x8 x9 x10 x11 x12 x39 l3 l4 x14 x15 x16 x17, .i 0]) (Mx5 c_0 c_1 c_2 c_3 c_4 c_5 c_6 c_7 l5 x21 b bt G L ds) : Prop))))) → k1 l5 x21 x22 x23 x24 x25 x26 x27 x28 x29 x30 x31 x32 x33 x34 l6 l7 x35 x36 x37 x38) → 0 ≤ (0 : Int) ∧ (0 : Int) < 2 ∧ (PRun Tryz.prog 10 [.c [.l 5 p, .i pn]] [.r 0 0, .i x3] (post [.I, .I] [.c [.l 5, .i .i64]] (fun x41 x42 l8 x43 => (bif x3 != 0 then (bif x42 != 0 then Q (.t [aDx x1 x2 x3 x4 x5 x6 x7 x8 x9 x10 x11 x12 x13 l3 l4 x14 x15 x16 x17, .i 3]) (Mx5 c_0 c_1 c_2 c_3 c_4 c_5 c_6 c_7 l8 x43 b bt G L ds) else 0 ≤ (1 : Int) ∧ (1 : Int) < 2 ∧ (PRun Tryz.prog 10 [.c [.l 5 l8, .i x43]] [.r 0 0, .i x6] (post [.I, .I] [.c [.l 5, .i .i64]] (fun x44 x45 l9 x46 => (bif x6 != 0 then (bif x45 != 0 then Q (.t [aDx x1 x2 x3 x4 x5 x6 x7 x8 x9 x10 x11 x12 x13 l3 l4 x14 x15 x16 x17, .i 3]) (Mx5 c_0 c_1 c_2 c_3 c_4 c_5 c_6 c_7 l9 x46 b bt G L ds) else k1 l9 x46 0 0 0 0 0 0 0 0 0 0 0 0 0 [] [] 0 0 0 0) else k1 l9 x46 0 0 0 0 0 0 0 0 0 0 0 0 0 [] [] 0 0 0 0 : Prop))))) else 0 ≤ (1 : Int) ∧ (1 : Int) < 2 ∧ (PRun Tryz.prog 10 [.c [.l 5 l8, .i x43]] [.r 0 0, .i x6] (post [.I, .I] [.c [.l 5, .i .i64]] (fun x47 x48 l10 x49 => (bif x6 != 0 then (bif x48 != 0 then Q (.t [aDx x1 x2 x3 x4 x5 x6 x7 x8 x9 x10 x11 x12 x13 l3 l4 x14 x15 x16 x17, .i 3]) (Mx5 c_0 c_1 c_2 c_3 c_4 c_5 c_6 c_7 l10 x49 b bt G L ds) else k1 l10 x49 0 0 0 0 0 0 0 0 0 0 0 0 0 [] [] 0 0 0 0) else k1 l10 x49 0 0 0 0 0 0 0 0 0 0 0 0 0 [] [] 0 0 0 0 : Prop)))) : Prop)))) : Prop))) : Prop)))) : Prop))) : Prop))) : Prop)))) : PRun Tryz.prog 36 (Mx5 c_0 c_1 c_2 c_3 c_4 c_5 c_6 c_7 p pn b bt G L ds) [.r 0 0, .i now, aDx d_id d_kind d_iss d_div d_bye d_to d_place d_dest d_pay d_pledge d_lasts d_days d_fee d_gives d_wants d_st d_due d_taker d_into] Q :=
 zak zra Tryz.func36 (by kernel_rfl) (H := ⟨[], [((36, 13, 8), ⟨[], [(1, .c [.l 5, .i .i64]), (7, .c [.i .i64, .i .i64, .i .i64, .i .i64, .i .i64, .i .i64, .i .i64, .i .i64, .i .i64, .i .i64, .i .i64, .i .i64, .i .i64, .ow 106 2, .ow 106 2, .i .i64, .i .i64, .i .i64, .i .i64])]⟩)], [], [], [], false, 64, KN.no, false, SP.no⟩) (n := 2) (by kernel_rfl) hh
theorem S9 {c_0 : Int} {c_1 : List (List U)} {c_2 : Int} {c_3 : List (List U)} {c_4 : Int} {c_5 : Int} {c_6 : Int} {c_7 : Int} {p : List (List U)} {pn : Int} {b : List (List U)} {bt : List Int} {G : Ob} {L : Ob} {ds : List (List U)} {now : Int} {d_id : Int} {d_kind : Int} {d_iss : Int} {d_div : Int} {d_bye : Int} {d_to : Int} {d_place : Int} {d_dest : Int} {d_pay : Int} {d_pledge : Int} {d_lasts : Int} {d_days : Int} {d_fee : Int} {d_gives : List (List U)} {d_wants : List (List U)} {d_st : Int} {d_due : Int} {d_taker : Int} {d_into : Int} {Q : V → Mem → Prop} (hh : PRun Tryz.prog 36 (Mx5 c_0 c_1 c_2 c_3 c_4 c_5 c_6 c_7 p pn b bt G L ds) [.r 0 0, .i now, aDx d_id d_kind d_iss d_div d_bye d_to d_place d_dest d_pay d_pledge d_lasts d_days d_fee d_gives d_wants d_st d_due d_taker d_into] (post [pDx, .I] pMx (fun x1 x2 x3 x4 x5 x6 x7 x8 x9 x10 x11 x12 x13 l1 l2 x14 x15 x16 x17 x18 x19 l3 x20 l4 x21 x22 x23 x24 l5 l6 x25 l7 a1 X1 X2 => (bif x18 != 0 then Q (.t [.i 0, .i x18]) (Mx6 x19 l3 x20 l4 x21 x22 x23 x24 l6 x25 l7 a1 X1 X2 l5) else PRun Tryz.prog 10 [.c [.l 5 l6, .i x25]] [.r 0 0, .i x3] (post [.I, .I] [.c [.l 5, .i .i64]] (fun x26 x27 l8 x28 => ∀ k1 : Int → List (List U) → Int → List (List U) → Int → Int → Int → Int → List (List U) → List (List U) → Int → List (List U) → List Int → Ob → Ob → Prop, (∀ x29 : Int, ∀ l9 : List (List U), ∀ x30 : Int, ∀ l10 : List (List U), ∀ x31 : Int, ∀ x32 : Int, ∀ x33 : Int, ∀ x34 : Int, ∀ l11 : List (List U), ∀ l12 : List (List U), ∀ x35 : Int, ∀ l13 : List (List U), ∀ a2 : List Int, ∀ X3 : Ob, ∀ X4 : Ob, (PRun Tryz.prog 40 [.c [.l 5 l12, .i x35]] [.r 0 0, .i x3, .i 0, .i x13] (post [.I] [.c [.l 5, .i .i64]] (fun x36 l14 x37 => ∀ k2 : List (List U) → Int → Prop, (∀ l15 : List (List U), ∀ x38 : Int, (PRun Tryz.prog 42 [.c [.l 5 l13, .n .i64 33 a2]] [.r 0 0, .a [.i x3, .i x4, .i x7, .i 1], .i 2, .i x1, .l 2 l1] (post [.I] [.c [.l 5, .n 33]] (fun x39 l16 a3 => (PRun Tryz.prog 43 [.o X3] [.r 0 0, .i x15, .i (z13 .i64 (z13 .i64 (2 * x1) + 1))] (post [.I, .I] [.A] (fun x40 x41 X5 => (zbo l11 [(rDx x1 x2 x3 x4 x5 x6 x7 x8 x9 x10 x11 x12 x13 l1 l2 x14 x15 x16 x17)] ∧ (Q (.t [.i x1, .i 0]) [.c [.i x29, .l 7 l9, .i x30, .l 4 l10, .i x31, .i x32, .i x33, .i x34, .r 1 0, .r 2 0, .r 3 0, .r 4 0, .w 6], .c [.l 5 l15, .i x38], .c [.l 5 l16, .n .i64 33 a3], .o X5, .o X4, .x, .w 33 19 (l11 ++ [(rDx x1 x2 x3 x4 x5 x6 x7 x8 x9 x10 x11 x12 x13 l1 l2 x14 x15 x16 x17)])]) : Prop))) : Prop)))) → k2 l15 x38) → (bif x2 == 1 then PRun Tryz.prog 41 [.c [.l 5 l14, .i x37]] [.r 0 0, .i x3, .i x1, .i x9] (post [.I] [.c [.l 5, .i .i64]] (fun x42 l17 x43 => (k2 l17 x43 : Prop))) else PRun Tryz.prog 41 [.c [.l 5 l14, .i x37]] [.r 0 0, .i x3, .i x1, .i 0] (post [.I] [.c [.l 5, .i .i64]] (fun x44 l18 x45 => (k2 l18 x45 : Prop))))))) → k1 x29 l9 x30 l10 x31 x32 x33 x34 l11 l12 x35 l13 a2 X3 X4) → ∀ k3 : Bool → Prop, (∀ b1 : Bool, ((bif b1 then Q (.t [.i 0, .i 6]) (Mx6 x19 l3 x20 l4 x21 x22 x23 x24 l8 x28 l7 a1 X1 X2 l5) else PRun Tryz.prog 39 (Mx5 x19 l3 x20 l4 x21 x22 x23 x24 l8 x28 l7 a1 X1 X2 l5) [.r 0 0, .a [.i x3, .i x4, .i x7, .i 1], .l 2 l1] (post [.B] pMx (fun b2 x46 l19 x47 l20 x48 x49 x50 x51 l21 l22 x52 l23 a4 X6 X7 => (bif !b2 then Q (.t [.i 0, .i 7]) (Mx6 x46 l19 x47 l20 x48 x49 x50 x51 l22 x52 l23 a4 X6 X7 l21) else k1 x46 l19 x47 l20 x48 x49 x50 x51 l21 l22 x52 l23 a4 X6 X7 : Prop))))) → k3 b1) → (bif x2 == 1 then k3 (decide (x26 < z13 .i64 (x13 + x9))) else k3 (decide (x26 < z13 .i64 (x13 + 0)))))) : Prop)))) : PRun Tryz.prog 9 (Mx5 c_0 c_1 c_2 c_3 c_4 c_5 c_6 c_7 p pn b bt G L ds) [.r 0 0, .i now, aDx d_id d_kind d_iss d_div d_bye d_to d_place d_dest d_pay d_pledge d_lasts d_days d_fee d_gives d_wants d_st d_due d_taker d_into] Q :=
 zak zra Tryz.func9 (by kernel_rfl) (H := ⟨[], [((9, 9, 10), ⟨[(42, .B)], []⟩), ((9, 12, 10), ⟨[], [(0, .c [.i .i64, .l 7, .i .i64, .l 4, .i .i64, .i .i64, .i .i64, .i .i64, .r 1 0, .r 2 0, .r 3 0, .r 4 0, .ow 33 19]), (1, .c [.l 5, .i .i64]), (2, .c [.l 5, .n 33]), (3, .A), (4, .A)]⟩), ((9, 14, 11), ⟨[], [(1, .c [.l 5, .i .i64])]⟩)], [35, 37, 38, 44], [], [], false, 64, KN.no, false, SP.no⟩) (n := 3) (by kernel_rfl) hh
theorem S12 {c_0 : Int} {c_1 : List (List U)} {c_2 : Int} {c_3 : List (List U)} {c_4 : Int} {c_5 : Int} {c_6 : Int} {c_7 : Int} {p : List (List U)} {pn : Int} {b : List (List U)} {bt : List Int} {G : Ob} {L : Ob} {ds : List (List U)} {id : Int} {Q : V → Mem → Prop} (hh : bif decide (id < 1) then Q (.t [.a [.i 0, .i 0, .i 0, .i 0, .i 0, .i 0, .i 0, .i 0, .i 0, .i 0, .i 0, .i 0, .i 0, .l 2 [], .l 2 [], .i 0, .i 0, .i 0, .i 0], .i 3]) (Mx5 c_0 c_1 c_2 c_3 c_4 c_5 c_6 c_7 p pn b bt G L ds) else (bif decide (id > (z15 ds : Int)) then Q (.t [.a [.i 0, .i 0, .i 0, .i 0, .i 0, .i 0, .i 0, .i 0, .i 0, .i 0, .i 0, .i 0, .i 0, .l 2 [], .l 2 [], .i 0, .i 0, .i 0, .i 0], .i 3]) (Mx5 c_0 c_1 c_2 c_3 c_4 c_5 c_6 c_7 p pn b bt G L ds) else 0 ≤ z13 .i64 (id - 1) ∧ z13 .i64 (id - 1) < (z15 ds : Int) ∧ (elL ds (z13 .i64 (id - 1)) (fun r1 => dDx r1 (fun x1 x2 x3 x4 x5 x6 x7 x8 x9 x10 x11 x12 x13 l1 l2 x14 x15 x16 x17 => PRun Tryz.prog 56 [] [.l 2 l1] (post [.L 2] [] (fun l3 => (PRun Tryz.prog 56 [] [.l 2 l2] (post [.L 2] [] (fun l4 => (Q (.t [aDx x1 x2 x3 x4 x5 x6 x7 x8 x9 x10 x11 x12 x13 l3 l4 x14 x15 x16 x17, .i 0]) (Mx5 c_0 c_1 c_2 c_3 c_4 c_5 c_6 c_7 p pn b bt G L ds) : Prop))) : Prop)))))))) : PRun Tryz.prog 12 (Mx5 c_0 c_1 c_2 c_3 c_4 c_5 c_6 c_7 p pn b bt G L ds) [.r 0 0, .i id] Q :=
 zak zra Tryz.func12 (by kernel_rfl) (H := ⟨[], [], [35], [], [], false, 64, KN.no, false, SP.no⟩) (n := 3) (by kernel_rfl) hh
theorem S17 {c_0 : Int} {c_1 : List (List U)} {c_2 : Int} {c_3 : List (List U)} {c_4 : Int} {c_5 : Int} {c_6 : Int} {c_7 : Int} {p : List (List U)} {pn : Int} {b : List (List U)} {bt : List Int} {G : Ob} {L : Ob} {ds : List (List U)} {Q : V → Mem → Prop} (hh : ∃ (I1 : List (List U) → Int → Int → List (List U) → Int → List (List U) → Int → Int → Int → Int → List (List U) → List (List U) → Int → List (List U) → List Int → Ob → Ob → Prop) (f1 : List (List U) → Int → Int → List (List U) → Int → List (List U) → Int → Int → Int → Int → List (List U) → List (List U) → Int → List (List U) → List Int → Ob → Ob → Nat), I1 [] 0 c_0 c_1 c_2 c_3 c_4 c_5 c_6 c_7 ds p pn b bt G L ∧ (∀ l1 : List (List U), ∀ x1 : Int, ∀ x2 : Int, ∀ l2 : List (List U), ∀ x3 : Int, ∀ l3 : List (List U), ∀ x4 : Int, ∀ x5 : Int, ∀ x6 : Int, ∀ x7 : Int, ∀ l4 : List (List U), ∀ l5 : List (List U), ∀ x8 : Int, ∀ l6 : List (List U), ∀ a1 : List Int, ∀ X1 : Ob, ∀ X2 : Ob, I1 l1 x1 x2 l2 x3 l3 x4 x5 x6 x7 l4 l5 x8 l6 a1 X1 X2 → (bif decide (x1 < (z15 ds : Int)) then PRun Tryz.prog 12 (Mx5 x2 l2 x3 l3 x4 x5 x6 x7 l5 x8 l6 a1 X1 X2 l4) [.r 0 0, .i (z13 .i64 (x1 + 1))] (post [pDx, .I] pMx (fun x9 x10 x11 x12 x13 x14 x15 x16 x17 x18 x19 x20 x21 l7 l8 x22 x23 x24 x25 x26 x27 l9 x28 l10 x29 x30 x31 x32 l11 l12 x33 l13 a2 X3 X4 => (zbo l1 [(rDx x9 x10 x11 x12 x13 x14 x15 x16 x17 x18 x19 x20 x21 l7 l8 x22 x23 x24 x25)] ∧ (I1 (l1 ++ [(rDx x9 x10 x11 x12 x13 x14 x15 x16 x17 x18 x19 x20 x21 l7 l8 x22 x23 x24 x25)]) (z13 .i64 (x1 + 1)) x27 l9 x28 l10 x29 x30 x31 x32 l11 l12 x33 l13 a2 X3 X4 ∧ f1 (l1 ++ [(rDx x9 x10 x11 x12 x13 x14 x15 x16 x17 x18 x19 x20 x21 l7 l8 x22 x23 x24 x25)]) (z13 .i64 (x1 + 1)) x27 l9 x28 l10 x29 x30 x31 x32 l11 l12 x33 l13 a2 X3 X4 < f1 l1 x1 x2 l2 x3 l3 x4 x5 x6 x7 l4 l5 x8 l6 a1 X1 X2) : Prop))) else Q (.l 19 l1) (Mx6 x2 l2 x3 l3 x4 x5 x6 x7 l5 x8 l6 a1 X1 X2 l4)))) : PRun Tryz.prog 17 (Mx5 c_0 c_1 c_2 c_3 c_4 c_5 c_6 c_7 p pn b bt G L ds) [.r 0 0] Q :=
 zak zra Tryz.func17 (by kernel_rfl) (H := ⟨[((17, 5, 6), ⟨[(3, .one (.ow 33 19)), (15, .I)], [(0, .c [.i .i64, .l 7, .i .i64, .l 4, .i .i64, .i .i64, .i .i64, .i .i64, .r 1 0, .r 2 0, .r 3 0, .r 4 0, .ow 33 19]), (1, .c [.l 5, .i .i64]), (2, .c [.l 5, .n 33]), (3, .A), (4, .A)]⟩)], [], [35], [], [], false, 64, KN.no, false, SP.no⟩) (n := 3) (by kernel_rfl) hh
theorem S13 {c_0 : Int} {c_1 : List (List U)} {c_2 : Int} {c_3 : List (List U)} {c_4 : Int} {c_5 : Int} {c_6 : Int} {c_7 : Int} {p : List (List U)} {pn : Int} {b : List (List U)} {bt : List Int} {G : Ob} {L : Ob} {ds : List (List U)} {now : Int} {id : Int} {st : Int} {Q : V → Mem → Prop} (hh : PRun Tryz.prog 12 (Mx5 c_0 c_1 c_2 c_3 c_4 c_5 c_6 c_7 p pn b bt G L ds) [.r 0 0, .i id] (post [pDx, .I] pMx (fun x1 x2 x3 x4 x5 x6 x7 x8 x9 x10 x11 x12 x13 l1 l2 x14 x15 x16 x17 x18 x19 l3 x20 l4 x21 x22 x23 x24 l5 l6 x25 l7 a1 X1 X2 => (bif x18 != 0 then Q (.i x18) (Mx6 x19 l3 x20 l4 x21 x22 x23 x24 l6 x25 l7 a1 X1 X2 l5) else (bif decide (now < 0) then Q (.i 1) (Mx6 x19 l3 x20 l4 x21 x22 x23 x24 l6 x25 l7 a1 X1 X2 l5) else (bif decide (now > 1099511627776) then Q (.i 1) (Mx6 x19 l3 x20 l4 x21 x22 x23 x24 l6 x25 l7 a1 X1 X2 l5) else PRun Tryz.prog 57 [] [aDx x1 x2 x3 x4 x5 x6 x7 x8 x9 x10 x11 x12 x13 l1 l2 x14 x15 x16 x17, .i st] (post [pDx, .I] [] (fun x26 x27 x28 x29 x30 x31 x32 x33 x34 x35 x36 x37 x38 l8 l9 x39 x40 x41 x42 x43 => (bif x43 != 0 then Q (.i x43) (Mx6 x19 l3 x20 l4 x21 x22 x23 x24 l6 x25 l7 a1 X1 X2 l5) else ∀ k1 : Int → Int → Int → Int → Prop, (∀ x44 : Int, ∀ x45 : Int, ∀ x46 : Int, ∀ x47 : Int, (PRun Tryz.prog 58 [.c [.l 5 l7, .n .i64 33 a1]] [.r 0 0, .i 2, .i id, .i x7] (post [.L 2, .I] [.c [.l 5, .n 33]] (fun l10 x48 l11 a2 => ∃ (I1 : Int → List (List U) → List Int → Int → Int → Int → Int → Prop) (f1 : Int → List (List U) → List Int → Int → Int → Int → Int → Nat), I1 0 l11 a2 x44 x45 x46 x47 ∧ (∀ x49 : Int, ∀ l12 : List (List U), ∀ a3 : List Int, ∀ x50 : Int, ∀ x51 : Int, ∀ x52 : Int, ∀ x53 : Int, I1 x49 l12 a3 x50 x51 x52 x53 → (bif decide (x49 < (z15 l10 : Int)) then elL l10 x49 (fun r1 => dI .i64 (ug r1 0) (fun x54 => dI .i64 (ug r1 1) (fun x55 => PRun Tryz.prog 59 [.c [.l 5 l12, .n .i64 33 a3]] [.r 0 0, .a [.i x50, .i x51, .i x52, .i x54], .i x55] (post [.I] [.c [.l 5, .n 33]] (fun x56 l13 a4 => (I1 (z13 .i64 (x49 + 1)) l13 a4 x50 x51 x52 x54 ∧ f1 (z13 .i64 (x49 + 1)) l13 a4 x50 x51 x52 x54 < f1 x49 l12 a3 x50 x51 x52 x53 : Prop)))))) else PRun Tryz.prog 55 (Mx5 x19 l3 x20 l4 x21 x22 x23 x24 l6 x25 l12 a3 X1 X2 l5) [.r 0 0, .a [.i x1, .i x2, .i x3, .i x4, .i x5, .i x6, .i x7, .i x8, .i x9, .i x10, .i x11, .i x12, .i x13, .l 2 l1, .l 2 l2, .i x14, .i x15, .i x16, .i x17, .i st, .i now, .i 0], aDx x26 x27 x28 x29 x30 x31 x32 x33 x34 x35 x36 x37 x38 l8 l9 x39 x40 x41 x42] (post [] pMx (fun x57 l14 x58 l15 x59 x60 x61 x62 l16 l17 x63 l18 a5 X3 X4 => (Q (.i 0) (Mx6 x57 l14 x58 l15 x59 x60 x61 x62 l17 x63 l18 a5 X3 X4 l16) : Prop)))))))) → k1 x44 x45 x46 x47) → (bif st == 3 then k1 x3 x4 x8 1 else (bif st == 4 then k1 x16 x17 x7 1 else k1 x3 x4 x7 1)) : Prop))))) : Prop)))) : PRun Tryz.prog 13 (Mx5 c_0 c_1 c_2 c_3 c_4 c_5 c_6 c_7 p pn b bt G L ds) [.r 0 0, .i now, .i id, .i st] Q :=
 zak zra Tryz.func13 (by kernel_rfl) (H := ⟨[((13, 17, 11), ⟨[(78, .I)], [(2, .c [.l 5, .n 33]), (10, .c [.i .i64, .i .i64, .i .i64, .i .i64])]⟩)], [((13, 15, 11), ⟨[], [(10, .c [.i .i64, .i .i64, .i .i64, .i .i64])]⟩)], [37], [], [], false, 64, KN.no, false, SP.no⟩) (n := 3) (by kernel_rfl) hh
theorem S25 {c_0 : Int} {c_1 : List (List U)} {c_2 : Int} {c_3 : List (List U)} {c_4 : Int} {c_5 : Int} {c_6 : Int} {c_7 : Int} {p : List (List U)} {pn : Int} {b : List (List U)} {bt : List Int} {G : Ob} {L : Ob} {ds : List (List U)} {now : Int} {id : Int} {Q : V → Mem → Prop} (hh : PRun Tryz.prog 12 (Mx5 c_0 c_1 c_2 c_3 c_4 c_5 c_6 c_7 p pn b bt G L ds) [.r 0 0, .i id] (post [pDx, .I] pMx (fun x1 x2 x3 x4 x5 x6 x7 x8 x9 x10 x11 x12 x13 l1 l2 x14 x15 x16 x17 x18 x19 l3 x20 l4 x21 x22 x23 x24 l5 l6 x25 l7 a1 X1 X2 => (bif x18 != 0 then Q (.i x18) (Mx6 x19 l3 x20 l4 x21 x22 x23 x24 l6 x25 l7 a1 X1 X2 l5) else PRun Tryz.prog 72 [] [aDx x1 x2 x3 x4 x5 x6 x7 x8 x9 x10 x11 x12 x13 l1 l2 x14 x15 x16 x17] (post [.I, .I] [] (fun x26 x27 => (bif x27 != 0 then Q (.i x27) (Mx6 x19 l3 x20 l4 x21 x22 x23 x24 l6 x25 l7 a1 X1 X2 l5) else PRun Tryz.prog 13 (Mx5 x19 l3 x20 l4 x21 x22 x23 x24 l6 x25 l7 a1 X1 X2 l5) [.r 0 0, .i now, .i id, .i x26] (post [.I] pMx (fun x28 x29 l8 x30 l9 x31 x32 x33 x34 l10 l11 x35 l12 a2 X3 X4 => (Q (.i x28) (Mx6 x29 l8 x30 l9 x31 x32 x33 x34 l11 x35 l12 a2 X3 X4 l10) : Prop))) : Prop))) : Prop)))) : PRun Tryz.prog 25 (Mx5 c_0 c_1 c_2 c_3 c_4 c_5 c_6 c_7 p pn b bt G L ds) [.r 0 0, .i now, .i id] Q :=
 zak zra Tryz.func25 (by kernel_rfl) (H := ⟨[], [], [], [], [], false, 64, KN.no, false, SP.no⟩) (n := 2) (by kernel_rfl) hh
theorem S55 {c_0 : Int} {c_1 : List (List U)} {c_2 : Int} {c_3 : List (List U)} {c_4 : Int} {c_5 : Int} {c_6 : Int} {c_7 : Int} {p : List (List U)} {pn : Int} {b : List (List U)} {bt : List Int} {G : Ob} {L : Ob} {ds : List (List U)} {d_id : Int} {d_kind : Int} {d_iss : Int} {d_div : Int} {d_bye : Int} {d_to : Int} {d_place : Int} {d_dest : Int} {d_pay : Int} {d_pledge : Int} {d_lasts : Int} {d_days : Int} {d_fee : Int} {d_gives : List (List U)} {d_wants : List (List U)} {d_st : Int} {d_due : Int} {d_taker : Int} {d_into : Int} {state : Int} {now : Int} {tax : Int} {e_id : Int} {e_kind : Int} {e_iss : Int} {e_div : Int} {e_bye : Int} {e_to : Int} {e_place : Int} {e_dest : Int} {e_pay : Int} {e_pledge : Int} {e_lasts : Int} {e_days : Int} {e_fee : Int} {e_gives : List (List U)} {e_wants : List (List U)} {e_st : Int} {e_due : Int} {e_taker : Int} {e_into : Int} {Q : V → Mem → Prop} (hh : ∀ k1 : List (List U) → Int → Prop, (∀ l1 : List (List U), ∀ x1 : Int, (0 ≤ z13 .i64 (d_id - 1) ∧ z13 .i64 (d_id - 1) < (z15 ds : Int) ∧ (PRun Tryz.prog 79 [.o G] [.r 0 0] (post [.L 3] [.A] (fun l2 X1 => ∃ (I1 : Int → Ob → Prop) (f1 : Int → Ob → Nat), I1 0 X1 ∧ (∀ x2 : Int, ∀ X2 : Ob, I1 x2 X2 → (bif decide (x2 < (z15 l2 : Int)) then elL l2 x2 (fun r1 => dI .i64 (ug r1 0) (fun x3 => dI .i64 (ug r1 1) (fun x4 => dI .i64 (ug r1 2) (fun x5 => (bif x5 == z13 .i64 (z13 .i64 (2 * d_id) + 1) then PRun Tryz.prog 113 [.o X2] [.r 0 0, .i x4] (post [.I] [.A] (fun x6 X3 => (PRun Tryz.prog 114 [.o L] [.r 0 0, .a [.i now, .i 2, .i d_id, .i state]] (post [.I] [.A] (fun x7 X4 => (Q (.t []) (Mx5 c_0 c_1 c_2 c_3 c_4 c_5 c_6 c_7 l1 x1 b bt X3 X4 (z2q ds (z16 (z13 .i64 (d_id - 1))) (rDx e_id e_kind e_iss e_div e_bye e_to e_place e_dest e_pay e_pledge e_lasts e_days e_fee e_gives e_wants e_st e_due e_taker e_into))) : Prop))) : Prop))) else I1 (z13 .i64 (x2 + 1)) X2 ∧ f1 (z13 .i64 (x2 + 1)) X2 < f1 x2 X2))))) else PRun Tryz.prog 114 [.o L] [.r 0 0, .a [.i now, .i 2, .i d_id, .i state]] (post [.I] [.A] (fun x8 X5 => (Q (.t []) (Mx5 c_0 c_1 c_2 c_3 c_4 c_5 c_6 c_7 l1 x1 b bt X2 X5 (z2q ds (z16 (z13 .i64 (d_id - 1))) (rDx e_id e_kind e_iss e_div e_bye e_to e_place e_dest e_pay e_pledge e_lasts e_days e_fee e_gives e_wants e_st e_due e_taker e_into))) : Prop))))))))) → k1 l1 x1) → PRun Tryz.prog 110 [] [aDx d_id d_kind d_iss d_div d_bye d_to d_place d_dest d_pay d_pledge d_lasts d_days d_fee d_gives d_wants d_st d_due d_taker d_into, .i state, .i tax] (post [.L 3, .I] [] (fun l3 x9 => (bif x9 == 0 then PRun Tryz.prog 111 [.c [.l 5 p, .i pn]] [.r 0 0, .i d_id, .l 3 l3] (post [.I] [.c [.l 5, .i .i64]] (fun x10 l4 x11 => (k1 l4 x11 : Prop))) else k1 p pn : Prop)))) : PRun Tryz.prog 55 (Mx5 c_0 c_1 c_2 c_3 c_4 c_5 c_6 c_7 p pn b bt G L ds) [.r 0 0, .a [.i d_id, .i d_kind, .i d_iss, .i d_div, .i d_bye, .i d_to, .i d_place, .i d_dest, .i d_pay, .i d_pledge, .i d_lasts, .i d_days, .i d_fee, .l 2 d_gives, .l 2 d_wants, .i d_st, .i d_due, .i d_taker, .i d_into, .i state, .i now, .i tax], aDx e_id e_kind e_iss e_div e_bye e_to e_place e_dest e_pay e_pledge e_lasts e_days e_fee e_gives e_wants e_st e_due e_taker e_into] Q :=
 zak zra Tryz.func55 (by kernel_rfl) (H := ⟨[((48, 1, 9), ⟨[(14, .I)], [(3, .A)]⟩)], [((55, 4, 9), ⟨[], [(1, .c [.l 5, .i .i64])]⟩)], [44, 48, 112], [], [], false, 64, KN.no, false, SP.no⟩) (n := 4) (by kernel_rfl) hh
end
abbrev Tm := Int × Int × Int
def leT (a b : Tm) : Prop := a.1 < b.1 ∨ (a.1 = b.1 ∧ a.2.1 ≤ b.2.1)
instance (a b : Tm) : Decidable (leT a b) := inferInstanceAs (Decidable (_ ∨ _))
theorem leT.refl (a : Tm) : leT a a := .inr ⟨rfl, z2v _⟩
theorem leT.trans {a b c : Tm} (h : leT a b) (k : leT b c) : leT a c := by unfold leT at *; omega
theorem leT.total {a b : Tm} (h : ¬ leT a b) : leT b a := by unfold leT at *; omega
def par (i : Nat) : Nat := (i - 1) / 2
theorem zdg {i : Nat} (h : 0 < i) : par i < i := by unfold par; omega
def Ord (ys : List Tm) (i : Nat) : Prop := ∀ x y, ys[par i]? = some x → ys[i]? = some y → leT x y
structure HpE (ys : List Tm) (k : Nat) : Prop where
 rest : ∀ i, 0 < i → i ≠ k → par i ≠ k → Ord ys i
 skip : ∀ j, 0 < j → par j = k → 0 < k → ∀ x y, ys[par k]? = some x → ys[j]? = some y → leT x y
def UpOK (ys : List Tm) (k : Nat) : Prop := 0 < k → Ord ys k
def znz (ys : List Tm) (k : Nat) : Prop := ∀ j, 0 < j → par j = k → Ord ys j
def IsHeap (ys : List Tm) : Prop := ∀ i, 0 < i → Ord ys i
theorem HpE.heap {ys : List Tm} {k : Nat} (h : HpE ys k) (u : UpOK ys k) (d : znz ys k) : IsHeap ys := fun i hi => by
 by_cases h1 : i = k
 · subst h1; exact u hi
 · by_cases h2 : par i = k
   · exact d i hi h2
   · exact h.rest i hi h1 h2
theorem IsHeap.he {ys : List Tm} (h : IsHeap ys) (k : Nat) : HpE ys k where
 rest i hi _ _ := h i hi
 skip j hj hp hk x y hx hy := by
  cases hz : ys[k]? with
  | none =>
    have h1 := z61.1 hz
    have h2 := (z2a.1 hy).1
    have := zdg hj
    omega
  | some z => exact (h k hk x z hx hz).trans (h j hj z y (by rw [hp]; exact hz) hy)
theorem HpE.set {ys : List Tm} {k : Nat} (h : HpE ys k) (t : Tm) : HpE (ys.set k t) k where
 rest i hi h1 h2 x y hx hy := by
  rw [z23 (Ne.symm h2)] at hx
  rw [z23 (Ne.symm h1)] at hy
  exact h.rest i hi h1 h2 x y hx hy
 skip j hj hp hk x y hx hy := by
  rw [z23 (by have := zdg hk; omega)] at hx
  rw [z23 (by have := zdg hj; omega)] at hy
  exact h.skip j hj hp hk x y hx hy
def swp (ys : List Tm) (i j : Nat) (x y : Tm) : List Tm := (ys.set i y).set j x
theorem zh2 {ys : List Tm} {i j : Nat} {x y : Tm} (hi : i < ys.length) (hj : j < ys.length) (hij : i ≠ j) (m : Nat) :
 (swp ys i j x y)[m]? = if m = i then some y else if m = j then some x else ys[m]? := by
 unfold swp
 by_cases h1 : m = j
 · subst h1
   rw [if_neg (Ne.symm hij), if_pos rfl, z3x (by simpa using hj)]
 · rw [z23 (Ne.symm h1)]
   by_cases h2 : m = i
   · subst h2; rw [if_pos rfl, z3x hi]
   · rw [if_neg h2, if_neg h1, z23 (Ne.symm h2)]
theorem zje {ys : List Tm} {i j : Nat} {x y : Tm} (hx : ys[i]? = some x) (hy : ys[j]? = some y) (hij : i ≠ j) : (swp ys i j x y).Perm ys := by
 rw [List.perm_iff_count]
 intro a
 obtain ⟨h1, h2⟩ := z2a.1 hx
 obtain ⟨h3, h4⟩ := z2a.1 hy
 unfold swp
 rw [List.count_set (by simpa using h3), List.count_set h1, List.getElem_set_ne hij, h2, h4]
 have hc : ∀ (z : Tm) (m : Nat) (hm : ys[m]? = some z), a = z → 0 < ys.count a := fun z m hm e => by
  subst e; exact List.count_pos_iff.2 (z2y hm)
 by_cases e1 : x = a <;> by_cases e2 : y = a
 · subst e1; subst e2; have := hc _ i hx rfl; simp <;> omega
 · subst e1; have := hc _ i hx rfl; simp [e2] <;> omega
 · subst e2; have := hc _ j hy rfl; simp [e1] <;> omega
 · simp [e1, e2]
theorem HpE.up {ys : List Tm} {k : Nat} {t p : Tm} (h : HpE ys k) (hk : 0 < k) (ht : ys[k]? = some t) (hp : ys[par k]? = some p) (hlt : leT t p) :
 HpE (swp ys k (par k) t p) (par k) ∧ znz (swp ys k (par k) t p) (par k) := by
 have hpk := zdg hk
 have hkl := (z2a.1 ht).1
 have hpl := (z2a.1 hp).1
 have g := zh2 (ys := ys) (x := t) (y := p) hkl hpl (by omega : k ≠ par k)
 refine ⟨⟨fun i hi h1 h2 x y hx hy => ?_, fun j hj hpj hpk0 x y hx hy => ?_⟩, fun j hj hpj x y hx hy => ?_⟩
 · rw [g] at hx hy
   have hik : i ≠ k := fun e => h2 (by rw [e])
   rw [if_neg hik, if_neg h1] at hy
   by_cases h3 : par i = k
   · rw [if_pos h3] at hx
     cases hx
     exact h.skip i hi h3 hk _ _ hp hy
   · rw [if_neg h3, if_neg h2] at hx
     exact h.rest i hi hik h3 x y hx hy
 · have hpp := zdg hpk0
   rw [g] at hx hy
   rw [if_neg (by omega), if_neg (by omega)] at hx
   have hap : leT x p := h.rest (par k) hpk0 (by omega) (by omega) x p hx hp
   by_cases hjk : j = k
   · rw [if_pos hjk] at hy; cases hy; exact hap
   · have hjp : j ≠ par k := by have := zdg hj; omega
     rw [if_neg hjk, if_neg hjp] at hy
     exact hap.trans (h.rest j hj hjk (by omega) p y (by rw [hpj]; exact hp) hy)
 · rw [g] at hx hy
   rw [hpj, if_neg (by omega), if_pos rfl] at hx
   cases hx
   by_cases hjk : j = k
   · rw [if_pos hjk] at hy; cases hy; exact hlt
   · have hjp : j ≠ par k := by have := zdg hj; omega
     rw [if_neg hjk, if_neg hjp] at hy
     exact hlt.trans (h.rest j hj hjk (by omega) p y (by rw [hpj]; exact hp) hy)
theorem HpE.down {ys : List Tm} {k b : Nat} {t u : Tm} (h : HpE ys k) (hb0 : 0 < b) (hb : par b = k) (ht : ys[k]? = some t) (hu : ys[b]? = some u) (hlt : leT u t)
 (hsm : ∀ j w, 0 < j → par j = k → ys[j]? = some w → leT u w) : HpE (swp ys k b t u) b ∧ UpOK (swp ys k b t u) b := by
 have hbk := zdg hb0
 have hkl := (z2a.1 ht).1
 have hbl := (z2a.1 hu).1
 have g := zh2 (ys := ys) (x := t) (y := u) hkl hbl (by omega : k ≠ b)
 refine ⟨⟨fun i hi h1 h2 x y hx hy => ?_, fun j hj hpj hb1 x y hx hy => ?_⟩, fun _ x y hx hy => ?_⟩
 · rw [g] at hx hy
   have hpi := zdg hi
   by_cases hik : i = k
   · rw [if_pos hik] at hy
     cases hy
     rw [if_neg (by omega), if_neg h2] at hx
     exact h.skip b hb0 hb (by omega) x _ (by rw [← hik]; exact hx) hu
   · rw [if_neg hik, if_neg h1] at hy
     by_cases h3 : par i = k
     · rw [if_pos h3] at hx
       cases hx
       exact hsm i y hi h3 hy
     · rw [if_neg h3, if_neg h2] at hx
       exact h.rest i hi hik h3 x y hx hy
 · rw [g] at hx hy
   rw [hb, if_pos rfl] at hx
   cases hx
   have hpj' := zdg hj
   rw [if_neg (by omega), if_neg (by omega)] at hy
   exact h.rest j hj (by omega) (by omega) _ y (by rw [hpj]; exact hu) hy
 · rw [g] at hx hy
   rw [hb, if_pos rfl] at hx
   cases hx
   rw [if_neg (by omega), if_pos rfl] at hy
   cases hy
   exact hlt
theorem IsHeap.first {ys : List Tm} (h : IsHeap ys) : ∀ (i : Nat) (x y : Tm), ys[0]? = some x → ys[i]? = some y → leT x y := by
 intro i
 induction i using Nat.strongRecOn with
 | ind i ih =>
   intro x y hx hy
   by_cases h0 : i = 0
   · subst h0; rw [hx] at hy; cases hy; exact .refl _
   · have hp := zdg (show 0 < i by omega)
     cases hz : ys[par i]? with
     | none =>
       have h1 := z61.1 hz
       have h2 := (z2a.1 hy).1
       omega
     | some z => exact (ih (par i) hp x z hx hz).trans (h i (by omega) z y hz hy)
abbrev Ids (ys : List Tm) : Prop := (ys.map (·.2.1)).Nodup
theorem Ids.inj {ys : List Tm} (h : Ids ys) {i j : Nat} {x y : Tm} (hx : ys[i]? = some x) (hy : ys[j]? = some y) (he : x.2.1 = y.2.1) : i = j := by
 obtain ⟨h1, h2⟩ := z2a.1 hx
 obtain ⟨h3, h4⟩ := z2a.1 hy
 have hp := z5q.1 h
 rcases Nat.lt_trichotomy i j with hlt | rfl | hlt
 · refine (hp i j (by simpa using h1) (by simpa using h3) hlt ?_).elim
   rw [z4p, z4p, h2, h4, he]
 · rfl
 · refine (hp j i (by simpa using h3) (by simpa using h1) hlt ?_).elim
   rw [z4p, z4p, h2, h4, he]
theorem zem {xs ys : List Tm} (h : ys.Perm xs) (hi : Ids xs) : Ids ys := (h.map _).nodup_iff.2 hi
theorem tdiv_par {k : Nat} (hk : 0 < k) (hb : k ≤ 1000000) : z13 .i64 (Int.tdiv (z13 .i64 ((k : Int) - 1)) 2) = (par k : Nat) := by
 rw [w64 (x := (k : Int) - 1) (by omega) (by omega)]
 have : ((k : Int) - 1) = ((k - 1 : Nat) : Int) := by omega
 rw [this, z6c (by omega)]
 have h2 : (((k - 1 : Nat) : Int) / 2) = (((k - 1) / 2 : Nat) : Int) := by omega
 rw [h2, w64 (by omega) (by omega)]; rfl
theorem zcl (k : MK) (v : List U) (k' : MK) : ∀ m, ze5 (zdf m k v) k' = if k = k' then some v else ze5 m k'
 | [] => rfl
 | p :: m => by
   by_cases h : p.1 = k
   · simp only [zdf, if_pos h, ze5]
     by_cases h2 : k = k'
     · rw [if_pos h2, if_pos h2]
     · rw [if_neg h2, if_neg h2, if_neg (by rw [h]; exact h2)]
   · simp only [zdf, if_neg h, ze5]
     by_cases h3 : p.1 = k'
     · rw [if_pos h3, if_pos h3, if_neg (fun e => h (h3.trans e.symm))]
     · rw [if_neg h3, if_neg h3]; exact zcl k v k' m
theorem zqr {k : MK} : ∀ {m : List (MK × List U)}, k ∉ m.map (·.1) → ze5 m k = none
 | [], _ => rfl
 | p :: m, h => by
   rw [z2s, z2e, not_or] at h
   simp only [ze5, if_neg (Ne.symm h.1)]
   exact zqr h.2
theorem zg1 (k k' : MK) : ∀ {m : List (MK × List U)}, (m.map (·.1)).Nodup → ze5 (zof m k) k' = if k = k' then none else ze5 m k'
 | [], _ => by simp [zof, ze5]
 | p :: m, h => by
   rw [z2s, z4d] at h
   by_cases e : p.1 = k
   · simp only [zof, if_pos e, ze5]
     by_cases h2 : k = k'
     · rw [if_pos h2, ← h2, ← e]; exact zqr h.1
     · rw [if_neg h2, if_neg (by rw [e]; exact h2)]
   · simp only [zof, if_neg e, ze5]
     by_cases h3 : p.1 = k'
     · rw [if_pos h3, if_pos h3, if_neg (fun f => e (h3.trans f.symm))]
     · rw [if_neg h3, if_neg h3]; exact zg1 k k' h.2
theorem zqq (k : MK) (v : List U) : ∀ {m : List (MK × List U)} {x : MK}, x ∈ (zdf m k v).map (·.1) → x = k ∨ x ∈ m.map (·.1)
 | [], x, h => by simp [zdf] at h; exact .inl h
 | p :: m, x, h => by
   by_cases e : p.1 = k
   · simp only [zdf, if_pos e, z2s, z2e] at h ⊢
     rcases h with h | h
     · exact .inl h
     · exact .inr (.inr h)
   · simp only [zdf, if_neg e, z2s, z2e] at h ⊢
     rcases h with h | h
     · exact .inr (.inl h)
     · exact (zqq k v h).imp id .inr
theorem zod (k : MK) (v : List U) : ∀ {m : List (MK × List U)}, (m.map (·.1)).Nodup → ((zdf m k v).map (·.1)).Nodup
 | [], _ => by simp [zdf]
 | p :: m, h => by
   rw [z2s, z4d] at h
   by_cases e : p.1 = k
   · simp only [zdf, if_pos e, z2s, z4d]
     exact ⟨e ▸ h.1, h.2⟩
   · simp only [zdf, if_neg e, z2s, z4d]
     exact ⟨fun hx => (zqq k v hx).elim e h.1, zod k v h.2⟩
theorem zte (k : MK) : ∀ {m : List (MK × List U)}, (m.map (·.1)).Nodup → ((zof m k).map (·.1)).Nodup
 | [], _ => by simp [zof]
 | p :: m, h => by
   rw [z2s, z4d] at h
   by_cases e : p.1 = k
   · simp only [zof, if_pos e]; exact h.2
   · simp only [zof, if_neg e, z2s, z4d]
     exact ⟨fun hx => by
      obtain ⟨r, hr, q⟩ := z20.1 hx
      exact h.1 (z20.2 ⟨r, zoe k m r hr, q⟩), zte k h.2⟩
structure MEx (m : List (MK × List U)) (ys : List Tm) (k : Nat) : Prop where
 pos : ∀ (i : Nat) (x : Tm), ys[i]? = some x → i ≠ k → ze5 m (.n x.2.1) = some [.n (i : Int)]
 only : ∀ id r, ze5 m (.n id) = some r → ∃ x ∈ ys, x.2.1 = id
 nd : (m.map (·.1)).Nodup
structure MAll (m : List (MK × List U)) (ys : List Tm) : Prop where
 pos : ∀ (i : Nat) (x : Tm), ys[i]? = some x → ze5 m (.n x.2.1) = some [.n (i : Int)]
 only : ∀ id r, ze5 m (.n id) = some r → ∃ x ∈ ys, x.2.1 = id
 nd : (m.map (·.1)).Nodup
theorem MEx.close {m : List (MK × List U)} {ys : List Tm} {k : Nat} {t : Tm} (h : MEx m ys k) (hi : Ids ys) (ht : ys[k]? = some t) : MAll (zdf m (.n t.2.1) [.n (k : Int)]) ys where
 pos i x hx := by
  rw [zcl]
  by_cases hik : i = k
  · subst hik; rw [ht] at hx; cases hx; rw [if_pos rfl]
  · rw [if_neg (fun e => hik (hi.inj hx ht (by injection e with e; exact e.symm)))]
    exact h.pos i x hx hik
 only id r hr := by
  rw [zcl] at hr
  by_cases e : (MK.n t.2.1) = .n id
  · injection e with e; exact ⟨t, z2y ht, e⟩
  · rw [if_neg e] at hr; exact h.only id r hr
 nd := zod _ _ h.nd
theorem MEx.move {m : List (MK × List U)} {ys : List Tm} {k a : Nat} {t p : Tm} (h : MEx m ys k) (hi : Ids ys) (ht : ys[k]? = some t) (hp : ys[a]? = some p) (hka : k ≠ a) : MEx (zdf m (.n p.2.1) [.n (k : Int)]) (swp ys k a t p) a := by
 have hkl := (z2a.1 ht).1
 have hal := (z2a.1 hp).1
 have g := zh2 (ys := ys) (x := t) (y := p) hkl hal hka
 refine ⟨fun i x hx hia => ?_, fun id r hr => ?_, zod _ _ h.nd⟩
 · rw [g] at hx
   rw [zcl]
   by_cases hik : i = k
   · rw [if_pos hik] at hx; cases hx; subst hik; rw [if_pos rfl]
   · rw [if_neg hik, if_neg hia] at hx
     rw [if_neg (fun e => hia (hi.inj hx hp (by injection e with e; exact e.symm)))]
     exact h.pos i x hx hik
 · have hperm := zje ht hp hka
   rw [zcl] at hr
   by_cases e : (MK.n p.2.1) = .n id
   · injection e with e; exact ⟨p, hperm.mem_iff.2 (z2y hp), e⟩
   · rw [if_neg e] at hr
     obtain ⟨x, hx, he⟩ := h.only id r hr
     exact ⟨x, hperm.mem_iff.2 hx, he⟩
section
set_option maxRecDepth 100000
theorem mixTr : Tryz.prog.follows .mixedOrders = true := by kernel_rfl
theorem S134 {a_0 : Int} {a_1 : Int} {a_2 : Int} {b_0 : Int} {b_1 : Int} {b_2 : Int} {Q : V → Mem → Prop} (hh : PRun Tryz.prog 177 [] [.i a_0, .i b_0] (post [.I] [] (fun x1 => (PRun Tryz.prog 177 [] [.i a_1, .i b_1] (post [.I] [] (fun x2 => (0 ≤ (0 : Int) ∧ (0 : Int) < 2 ∧ (bif x1 != 0 then Q (.i x1) [] else 0 ≤ (1 : Int) ∧ (1 : Int) < 2 ∧ (bif x2 != 0 then Q (.i x2) [] else Q (.i 0) [])) : Prop))) : Prop)))) : PRun Tryz.prog 134 [] [.a [.i a_0, .i a_1, .i a_2], .a [.i b_0, .i b_1, .i b_2]] Q :=
 zak mixTr Tryz.func134 (by kernel_rfl) (H := ⟨[], [], [176], [], [], false, 64, KN.no, false, SP.no⟩) (n := 3) (by kernel_rfl) hh
theorem S148 {q_0 : List (List U)} {q_1 : List (MK × List U)} {q_2 : Int} {q_3 : Int} {k : Int} {Q : V → Mem → Prop} (hh : 0 ≤ k ∧ k < (z15 q_0 : Int) ∧ (elL q_0 k (fun r1 => dI .i64 (ug r1 0) (fun x1 => dI .i64 (ug r1 1) (fun x2 => dI .i64 (ug r1 2) (fun x3 => ∃ (I1 : Int → List (List U) → List (MK × List U) → Prop) (f1 : Int → List (List U) → List (MK × List U) → Nat), I1 k q_0 q_1 ∧ (∀ x4 : Int, ∀ l1 : List (List U), ∀ m1 : List (MK × List U), I1 x4 l1 m1 → (bif decide (x4 > 0) then (2 : Int) ≠ 0 ∧ (0 ≤ z13 .i64 (Int.tdiv (z13 .i64 (x4 - 1)) 2) ∧ z13 .i64 (Int.tdiv (z13 .i64 (x4 - 1)) 2) < (z15 l1 : Int) ∧ (elL l1 (z13 .i64 (Int.tdiv (z13 .i64 (x4 - 1)) 2)) (fun r2 => dI .i64 (ug r2 0) (fun x5 => dI .i64 (ug r2 1) (fun x6 => dI .i64 (ug r2 2) (fun x7 => PRun Tryz.prog 134 [] [.a [.i x1, .i x2, .i x3], .a [.i x5, .i x6, .i x7]] (post [.I] [] (fun x8 => (bif decide (x8 > 0) then 0 ≤ x4 ∧ x4 < (z15 l1 : Int) ∧ (Q (.t []) [.c [.w 1, .m 2, .i q_2, .i q_3], .w 136 3 (z2q l1 (z16 x4) [.n x1, .n x2, .n x3]), .p .n 1 false (zdf m1 (.n x2) [.n x4])]) else 0 ≤ z13 .i64 (Int.tdiv (z13 .i64 (x4 - 1)) 2) ∧ z13 .i64 (Int.tdiv (z13 .i64 (x4 - 1)) 2) < (z15 l1 : Int) ∧ (elL l1 (z13 .i64 (Int.tdiv (z13 .i64 (x4 - 1)) 2)) (fun r3 => dI .i64 (ug r3 0) (fun x9 => dI .i64 (ug r3 1) (fun x10 => dI .i64 (ug r3 2) (fun x11 => 0 ≤ x4 ∧ x4 < (z15 l1 : Int) ∧ (I1 (z13 .i64 (Int.tdiv (z13 .i64 (x4 - 1)) 2)) (z2q l1 (z16 x4) [.n x9, .n x10, .n x11]) (zdf m1 (.n x10) [.n x4]) ∧ f1 (z13 .i64 (Int.tdiv (z13 .i64 (x4 - 1)) 2)) (z2q l1 (z16 x4) [.n x9, .n x10, .n x11]) (zdf m1 (.n x10) [.n x4]) < f1 x4 l1 m1)))))) : Prop))))))))) else 0 ≤ x4 ∧ x4 < (z15 l1 : Int) ∧ (Q (.t []) [.c [.w 1, .m 2, .i q_2, .i q_3], .w 136 3 (z2q l1 (z16 x4) [.n x1, .n x2, .n x3]), .p .n 1 false (zdf m1 (.n x2) [.n x4])]))))))))) : PRun Tryz.prog 148 [.c [.w 1, .m 2, .i q_2, .i q_3], .w 136 3 q_0, .p .n 1 false q_1] [.r 0 0, .i k] Q :=
 zak mixTr Tryz.func148 (by kernel_rfl) (H := ⟨[((148, 1, 4), ⟨[(1, .I)], [(1, .row 136 3), (2, .mp .n 1 false)]⟩)], [], [147], [], [], false, 64, KN.no, false, SP.no⟩) (n := 3) (by kernel_rfl) hh
theorem S121 {q_0 : List (List U)} {q_1 : List (MK × List U)} {q_2 : Int} {q_3 : Int} {t_0 : Int} {t_1 : Int} {t_2 : Int} {Q : V → Mem → Prop} (hh : zbo q_0 [[.n t_0, .n t_1, .n t_2]] ∧ (PRun Tryz.prog 148 [.c [.w 1, .m 2, .i q_2, .i q_3], .w 136 3 (q_0 ++ [[.n t_0, .n t_1, .n t_2]]), .p .n 1 false q_1] [.r 0 0, .i (z13 .i64 ((z15 (q_0 ++ [[.n t_0, .n t_1, .n t_2]]) : Int) - 1))] (post [] [.c [.ow 136 3, .m 2, .i .i64, .i .i64], .X, .mp .n 1 false] (fun l1 x1 x2 m1 => (Q (.t []) [.c [.w 3, .m 2, .i x1, .i x2], .x, .p .n 1 false m1, .w 136 3 l1] : Prop))))) : PRun Tryz.prog 121 [.c [.w 1, .m 2, .i q_2, .i q_3], .w 136 3 q_0, .p .n 1 false q_1] [.r 0 0, .a [.i t_0, .i t_1, .i t_2]] Q :=
 zak mixTr Tryz.func121 (by kernel_rfl) (H := ⟨[], [], [], [], [], false, 64, KN.no, false, SP.no⟩) (n := 2) (by kernel_rfl) hh
end
section
variable {Q : V → Mem → Prop}
abbrev rT (t : Tm) : List U := [.n t.1, .n t.2.1, .n t.2.2]
abbrev tV (t : Tm) : V := .a [.i t.1, .i t.2.1, .i t.2.2]
abbrev qM (xs : List Tm) (m : List (MK × List U)) (most next : Int) : Mem := [.c [.w 1, .m 2, .i most, .i next], .w 136 3 (xs.map rT), .p .n 1 false m]
theorem zlw {a b : Tm} (k : ∀ x : Int, (x > 0 ↔ ¬ leT a b) → (x < 0 ↔ ¬ leT b a) → Q (.i x) []) : PRun Tryz.prog 134 [] [tV a, tV b] Q := by
 refine S134 (zr4 ?_)
 rw [zax]
 refine zr4 ?_
 rw [zax]
 refine ⟨by omega, by omega, ?_⟩
 unfold leT at k
 by_cases h1 : a.1 < b.1
 · rw [if_pos h1]; exact k _ (by omega) (by omega)
 · by_cases h2 : b.1 < a.1
   · rw [if_neg h1, if_pos h2]; exact k _ (by omega) (by omega)
   · rw [if_neg h1, if_neg h2]
     refine ⟨by omega, by omega, ?_⟩
     by_cases h3 : a.2.1 < b.2.1
     · rw [if_pos h3]; exact k _ (by omega) (by omega)
     · by_cases h4 : b.2.1 < a.2.1
       · rw [if_neg h3, if_pos h4]; exact k _ (by omega) (by omega)
       · rw [if_neg h3, if_neg h4]; exact k _ (by omega) (by omega)
theorem zuy {xs : List Tm} {k : Nat} {t : Tm} (hk : xs[k]? = some t) : xs.set k t = xs := by
 apply z4o
 intro i
 by_cases hik : k = i
 · subst hik; rw [z3x (z2a.1 hk).1, hk]
 · rw [z23 hik]
theorem upQ_S {xs : List Tm} {m : List (MK × List U)} {most next : Int} {k : Nat} {t : Tm} (hk : xs[k]? = some t) (hn : xs.length ≤ 1000000) (hi : Ids xs) (hH : HpE xs k) (hM : MEx m xs k)
 (K : ∀ (ys : List Tm) (m' : List (MK × List U)) (k' : Nat), ys.Perm xs → HpE ys k' → UpOK ys k' → ys[k']? = some t → MAll m' ys → ((k' = k ∧ ys = xs) ∨ znz ys k') → Q (.t []) (qM ys m' most next)) :
 PRun Tryz.prog 148 (qM xs m most next) [.r 0 0, .i (k : Int)] Q := by
 have hkl := (z2a.1 hk).1
 refine S148 ⟨by omega, by rw [z2d]; omega, ?_⟩
 rw [zav (r := rT t) (by omega) (by simp [hk])]
 simp only [rT, ug0, ugs, zcs]
 refine ⟨fun x l m' => ∃ (j : Nat) (zs ys : List Tm), x = (j : Int) ∧ l = zs.map rT ∧ zs.set j t = ys ∧ ys[j]? = some t ∧ ys.Perm xs ∧ HpE ys j ∧ MEx m' ys j ∧ ((j = k ∧ ys = xs) ∨ znz ys j), fun x _ _ => x.toNat,
  ⟨k, xs, xs, rfl, rfl, zuy hk, hk, .refl _, hH, hM, .inl ⟨rfl, rfl⟩⟩, ?_⟩
 rintro _ _ m3 ⟨j, zs, ys, rfl, rfl, hset, hj, hperm, hH3, hM3, hdn⟩
 have hlz : zs.length = ys.length := by rw [← hset, z3d]
 have hly : ys.length = xs.length := hperm.length_eq
 have hjl := (z2a.1 hj).1
 have hiy : Ids ys := zem hperm hi
 have hzy : ∀ i, i ≠ j → zs[i]? = ys[i]? := fun i hij => by rw [← hset, z23 (Ne.symm hij)]
 have hend : UpOK ys j → 0 ≤ (j : Int) ∧ (j : Int) < ((zs.map rT).length : Int) ∧ Q (.t []) [.c [.w 1, .m 2, .i most, .i next], .w 136 3 (z2q (zs.map rT) (z16 (j : Int)) [.n t.1, .n t.2.1, .n t.2.2]), .p .n 1 false (zdf m3 (.n t.2.1) [.n (j : Int)])] := fun hu => by
  refine ⟨by omega, by rw [z2d]; omega, ?_⟩
  have e : z2q (zs.map rT) (z16 (j : Int)) (rT t) = ys.map rT := by rw [z27, ← hset, z43]
  rw [show ([.n t.1, .n t.2.1, .n t.2.2] : List U) = rT t from rfl, e]
  exact K ys _ j hperm hH3 hu hj (hM3.close hiy hj) hdn
 refine cIf (fun hpos => ?_) fun h0 => hend fun h => by omega
 have hj0 : 0 < j := by omega
 rw [tdiv_par hj0 (by omega)]
 have hpj := zdg hj0
 obtain ⟨p, hp⟩ : ∃ p, ys[par j]? = some p := ⟨ys[par j]'(by omega), z2c (by omega)⟩
 have hpz : zs[par j]? = some p := (hzy _ (by omega)).trans hp
 refine ⟨by decide, by omega, by rw [z2d]; omega, ?_⟩
 rw [zav (r := rT p) (by omega) (by simp [hpz])]
 simp only [rT, ug0, ugs, zcs]
 refine zlw fun x hx1 hx2 => ?_
 rw [zax]
 refine cIf (fun hgt => ?_) fun hle => ?_
 · exact hend fun _ u w hu hw => by
    rw [hp] at hu; rw [hj] at hw
    cases hu; cases hw
    exact leT.total (hx1.1 hgt)
 · have hlt : leT t p := Decidable.byContradiction fun hc => hle (hx1.2 hc)
   refine ⟨by omega, by rw [z2d]; omega, ?_⟩
   rw [zav (r := rT p) (by omega) (by simp [hpz])]
   simp only [rT, ug0, ugs, zcs]
   obtain ⟨hup, hdo⟩ := hH3.up hj0 hj hp hlt
   refine ⟨by omega, by rw [z2d]; omega, ⟨par j, zs.set j p, swp ys j (par j) t p, rfl, ?_, ?_, ?_, (zje hj hp (by omega)).trans hperm, hup, hM3.move hiy hj hp (by omega), .inr hdo⟩, by simp only [z27]; exact hpj⟩
   · rw [z27, z43]
   · unfold swp
     rw [← hset, List.set_set]
   · rw [zh2 hjl (by omega) (by omega), if_neg (by omega), if_pos rfl]
end
section
variable {Q : V → Mem → Prop}
structure QInv (xs : List Tm) (m : List (MK × List U)) : Prop where
 heap : IsHeap xs
 all : MAll m xs
 ids : Ids xs
abbrev qN (xs : List Tm) (m : List (MK × List U)) (most next : Int) : Mem := [.c [.w 3, .m 2, .i most, .i next], .x, .p .n 1 false m, .w 136 3 (xs.map rT)]
theorem zu6 (xs : List Tm) (m : List (MK × List U)) (most next : Int) : Nrm (qN xs m most next) (qM xs m most next) :=
 Nrm.four (l := [.w 3, .m 2, .i most, .i next]) (by simp [za5, zam, zae]) (by simp [za5]) (by simp [za5])
theorem push_S {xs : List Tm} {m : List (MK × List U)} {most next : Int} {t : Tm} (h : QInv xs m) (ht : ∀ x ∈ xs, x.2.1 ≠ t.2.1) (hn : xs.length ≤ 100000)
 (K : ∀ (ys : List Tm) (m' : List (MK × List U)), QInv ys m' → ys.Perm (t :: xs) → Q (.t []) (qN ys m' most next)) :
 PRun Tryz.prog 121 (qM xs m most next) [.r 0 0, tV t] Q := by
 have hxl : (xs ++ [t]).length = xs.length + 1 := by simp
 have hlast : (xs ++ [t])[xs.length]? = some t := by simp
 have hnone : ∀ j, xs.length < j → (xs ++ [t])[j]? = none := fun j hj => z3u (by rw [hxl]; omega)
 have hold : ∀ j, j < xs.length → (xs ++ [t])[j]? = xs[j]? := fun j hj => z2k hj
 have hpn : ∀ j, 0 < j → par j = xs.length → (xs ++ [t])[j]? = none := fun j hj hpj => hnone j (by have := zdg hj; omega)
 have hE : HpE (xs ++ [t]) xs.length := ⟨fun i hi0 hin hpi x y hx hy => by
  have hil : i < xs.length := by
   have := (z2a.1 hy).1; rw [hxl] at this; omega
  have := zdg hi0
  rw [hold _ (by omega)] at hx hy
  exact h.heap i hi0 x y hx hy, fun j hj hpj hk x y hx hy => by rw [hpn j hj hpj] at hy; cases hy⟩
 have hD : znz (xs ++ [t]) xs.length := fun j hj hpj x y hx hy => by rw [hpn j hj hpj] at hy; cases hy
 have hids : Ids (xs ++ [t]) := by
  show ((xs ++ [t]).map (·.2.1)).Nodup
  rw [z28, z4u]
  refine ⟨h.ids, by simp, fun u hu w hw' => ?_⟩
  simp at hw'; subst hw'
  obtain ⟨x, hx, rfl⟩ := z20.1 hu
  exact ht x hx
 have hMx : MEx m (xs ++ [t]) xs.length := ⟨fun i x hx hin => by
  have hil : i < xs.length := by
   have := (z2a.1 hx).1; rw [hxl] at this; omega
  rw [hold _ hil] at hx
  exact h.all.pos i x hx, fun id r hr => by obtain ⟨x, hx, he⟩ := h.all.only id r hr; exact ⟨x, by simp [hx], he⟩, h.all.nd⟩
 have e1 : xs.map rT ++ [rT t] = (xs ++ [t]).map rT := by simp
 refine S121 ⟨by unfold zbo; simp; omega, ?_⟩
 have ew : z13 .i64 ((z15 ((xs ++ [t]).map rT) : Int) - 1) = (xs.length : Nat) := by rw [z2d, hxl, w64 (by omega) (by omega)]; omega
 rw [show ([[.n t.1, .n t.2.1, .n t.2.2]] : List (List U)) = [rT t] from rfl, e1, ew]
 refine upQ_S hlast (by rw [hxl]; omega) hids hE hMx fun ys m' k' hperm hHE hU hkt hMA hdn => ?_
 have hD5 : znz ys k' := by
  rcases hdn with ⟨rfl, rfl⟩ | h
  · exact hD
  · exact h
 exact K ys m' ⟨hHE.heap hU hD5, hMA, zem hperm hids⟩ (hperm.trans z5a)
end
section
set_option maxRecDepth 100000
theorem ztq : Tryz.prog.follows .mixedOrders = true := by kernel_rfl
theorem S149 {q_0 : List (List U)} {q_1 : List (MK × List U)} {q_2 : Int} {q_3 : Int} {k : Int} {Q : V → Mem → Prop} (hh : 0 ≤ k ∧ k < (z15 q_0 : Int) ∧ (elL q_0 k (fun r1 => dI .i64 (ug r1 0) (fun x1 => dI .i64 (ug r1 1) (fun x2 => dI .i64 (ug r1 2) (fun x3 => ∃ (I1 : Int → List (List U) → List (MK × List U) → Prop) (f1 : Int → List (List U) → List (MK × List U) → Nat), I1 k q_0 q_1 ∧ (∀ x4 : Int, ∀ l1 : List (List U), ∀ m1 : List (MK × List U), I1 x4 l1 m1 → (bif decide (z13 .i64 (z13 .i64 (z13 .i64 (2 * x4) + 1) + 1) < (z15 l1 : Int)) then 0 ≤ z13 .i64 (z13 .i64 (z13 .i64 (2 * x4) + 1) + 1) ∧ z13 .i64 (z13 .i64 (z13 .i64 (2 * x4) + 1) + 1) < (z15 l1 : Int) ∧ (elL l1 (z13 .i64 (z13 .i64 (z13 .i64 (2 * x4) + 1) + 1)) (fun r2 => dI .i64 (ug r2 0) (fun x5 => dI .i64 (ug r2 1) (fun x6 => dI .i64 (ug r2 2) (fun x7 => 0 ≤ z13 .i64 (z13 .i64 (2 * x4) + 1) ∧ z13 .i64 (z13 .i64 (2 * x4) + 1) < (z15 l1 : Int) ∧ (elL l1 (z13 .i64 (z13 .i64 (2 * x4) + 1)) (fun r3 => dI .i64 (ug r3 0) (fun x8 => dI .i64 (ug r3 1) (fun x9 => dI .i64 (ug r3 2) (fun x10 => PRun Tryz.prog 134 [] [.a [.i x5, .i x6, .i x7], .a [.i x8, .i x9, .i x10]] (post [.I] [] (fun x11 => (bif decide (x11 < 0) then (bif decide (z13 .i64 (z13 .i64 (z13 .i64 (2 * x4) + 1) + 1) ≥ (z15 l1 : Int)) then 0 ≤ x4 ∧ x4 < (z15 l1 : Int) ∧ (Q (.t []) [.c [.w 1, .m 2, .i q_2, .i q_3], .w 136 3 (z2q l1 (z16 x4) [.n x1, .n x2, .n x3]), .p .n 1 false (zdf m1 (.n x2) [.n x4])]) else 0 ≤ z13 .i64 (z13 .i64 (z13 .i64 (2 * x4) + 1) + 1) ∧ z13 .i64 (z13 .i64 (z13 .i64 (2 * x4) + 1) + 1) < (z15 l1 : Int) ∧ (elL l1 (z13 .i64 (z13 .i64 (z13 .i64 (2 * x4) + 1) + 1)) (fun r4 => dI .i64 (ug r4 0) (fun x12 => dI .i64 (ug r4 1) (fun x13 => dI .i64 (ug r4 2) (fun x14 => PRun Tryz.prog 134 [] [.a [.i x12, .i x13, .i x14], .a [.i x1, .i x2, .i x3]] (post [.I] [] (fun x15 => (bif decide (x15 > 0) then 0 ≤ x4 ∧ x4 < (z15 l1 : Int) ∧ (Q (.t []) [.c [.w 1, .m 2, .i q_2, .i q_3], .w 136 3 (z2q l1 (z16 x4) [.n x1, .n x2, .n x3]), .p .n 1 false (zdf m1 (.n x2) [.n x4])]) else 0 ≤ z13 .i64 (z13 .i64 (z13 .i64 (2 * x4) + 1) + 1) ∧ z13 .i64 (z13 .i64 (z13 .i64 (2 * x4) + 1) + 1) < (z15 l1 : Int) ∧ (elL l1 (z13 .i64 (z13 .i64 (z13 .i64 (2 * x4) + 1) + 1)) (fun r5 => dI .i64 (ug r5 0) (fun x16 => dI .i64 (ug r5 1) (fun x17 => dI .i64 (ug r5 2) (fun x18 => 0 ≤ x4 ∧ x4 < (z15 l1 : Int) ∧ (I1 (z13 .i64 (z13 .i64 (z13 .i64 (2 * x4) + 1) + 1)) (z2q l1 (z16 x4) [.n x16, .n x17, .n x18]) (zdf m1 (.n x17) [.n x4]) ∧ f1 (z13 .i64 (z13 .i64 (z13 .i64 (2 * x4) + 1) + 1)) (z2q l1 (z16 x4) [.n x16, .n x17, .n x18]) (zdf m1 (.n x17) [.n x4]) < f1 x4 l1 m1)))))) : Prop))))))))) else (bif decide (z13 .i64 (z13 .i64 (2 * x4) + 1) ≥ (z15 l1 : Int)) then 0 ≤ x4 ∧ x4 < (z15 l1 : Int) ∧ (Q (.t []) [.c [.w 1, .m 2, .i q_2, .i q_3], .w 136 3 (z2q l1 (z16 x4) [.n x1, .n x2, .n x3]), .p .n 1 false (zdf m1 (.n x2) [.n x4])]) else 0 ≤ z13 .i64 (z13 .i64 (2 * x4) + 1) ∧ z13 .i64 (z13 .i64 (2 * x4) + 1) < (z15 l1 : Int) ∧ (elL l1 (z13 .i64 (z13 .i64 (2 * x4) + 1)) (fun r6 => dI .i64 (ug r6 0) (fun x19 => dI .i64 (ug r6 1) (fun x20 => dI .i64 (ug r6 2) (fun x21 => PRun Tryz.prog 134 [] [.a [.i x19, .i x20, .i x21], .a [.i x1, .i x2, .i x3]] (post [.I] [] (fun x22 => (bif decide (x22 > 0) then 0 ≤ x4 ∧ x4 < (z15 l1 : Int) ∧ (Q (.t []) [.c [.w 1, .m 2, .i q_2, .i q_3], .w 136 3 (z2q l1 (z16 x4) [.n x1, .n x2, .n x3]), .p .n 1 false (zdf m1 (.n x2) [.n x4])]) else 0 ≤ z13 .i64 (z13 .i64 (2 * x4) + 1) ∧ z13 .i64 (z13 .i64 (2 * x4) + 1) < (z15 l1 : Int) ∧ (elL l1 (z13 .i64 (z13 .i64 (2 * x4) + 1)) (fun r7 => dI .i64 (ug r7 0) (fun x23 => dI .i64 (ug r7 1) (fun x24 => dI .i64 (ug r7 2) (fun x25 => 0 ≤ x4 ∧ x4 < (z15 l1 : Int) ∧ (I1 (z13 .i64 (z13 .i64 (2 * x4) + 1)) (z2q l1 (z16 x4) [.n x23, .n x24, .n x25]) (zdf m1 (.n x24) [.n x4]) ∧ f1 (z13 .i64 (z13 .i64 (2 * x4) + 1)) (z2q l1 (z16 x4) [.n x23, .n x24, .n x25]) (zdf m1 (.n x24) [.n x4]) < f1 x4 l1 m1)))))) : Prop))))))))) : Prop))))))))))))) else (bif decide (z13 .i64 (z13 .i64 (2 * x4) + 1) ≥ (z15 l1 : Int)) then 0 ≤ x4 ∧ x4 < (z15 l1 : Int) ∧ (Q (.t []) [.c [.w 1, .m 2, .i q_2, .i q_3], .w 136 3 (z2q l1 (z16 x4) [.n x1, .n x2, .n x3]), .p .n 1 false (zdf m1 (.n x2) [.n x4])]) else 0 ≤ z13 .i64 (z13 .i64 (2 * x4) + 1) ∧ z13 .i64 (z13 .i64 (2 * x4) + 1) < (z15 l1 : Int) ∧ (elL l1 (z13 .i64 (z13 .i64 (2 * x4) + 1)) (fun r8 => dI .i64 (ug r8 0) (fun x26 => dI .i64 (ug r8 1) (fun x27 => dI .i64 (ug r8 2) (fun x28 => PRun Tryz.prog 134 [] [.a [.i x26, .i x27, .i x28], .a [.i x1, .i x2, .i x3]] (post [.I] [] (fun x29 => (bif decide (x29 > 0) then 0 ≤ x4 ∧ x4 < (z15 l1 : Int) ∧ (Q (.t []) [.c [.w 1, .m 2, .i q_2, .i q_3], .w 136 3 (z2q l1 (z16 x4) [.n x1, .n x2, .n x3]), .p .n 1 false (zdf m1 (.n x2) [.n x4])]) else 0 ≤ z13 .i64 (z13 .i64 (2 * x4) + 1) ∧ z13 .i64 (z13 .i64 (2 * x4) + 1) < (z15 l1 : Int) ∧ (elL l1 (z13 .i64 (z13 .i64 (2 * x4) + 1)) (fun r9 => dI .i64 (ug r9 0) (fun x30 => dI .i64 (ug r9 1) (fun x31 => dI .i64 (ug r9 2) (fun x32 => 0 ≤ x4 ∧ x4 < (z15 l1 : Int) ∧ (I1 (z13 .i64 (z13 .i64 (2 * x4) + 1)) (z2q l1 (z16 x4) [.n x30, .n x31, .n x32]) (zdf m1 (.n x31) [.n x4]) ∧ f1 (z13 .i64 (z13 .i64 (2 * x4) + 1)) (z2q l1 (z16 x4) [.n x30, .n x31, .n x32]) (zdf m1 (.n x31) [.n x4]) < f1 x4 l1 m1)))))) : Prop))))))))))))))))) : PRun Tryz.prog 149 [.c [.w 1, .m 2, .i q_2, .i q_3], .w 136 3 q_0, .p .n 1 false q_1] [.r 0 0, .i k] Q :=
 zak ztq Tryz.func149 (by kernel_rfl) (H := ⟨[((149, 1, 4), ⟨[(1, .I)], [(1, .row 136 3), (2, .mp .n 1 false)]⟩)], [], [147], [], [], false, 64, KN.no, false, SP.no⟩) (n := 3) (by kernel_rfl) hh
theorem S103 {q_0 : List (List U)} {q_1 : List (MK × List U)} {q_2 : Int} {q_3 : Int} {k : Int} {Q : V → Mem → Prop} (hh : 0 ≤ k ∧ k < (z15 q_0 : Int) ∧ (elL q_0 k (fun r1 => dI .i64 (ug r1 0) (fun x1 => dI .i64 (ug r1 1) (fun x2 => dI .i64 (ug r1 2) (fun x3 => 0 ≤ z13 .i64 ((z15 q_0 : Int) - 1) ∧ z13 .i64 ((z15 q_0 : Int) - 1) < (z15 q_0 : Int) ∧ (elL q_0 (z13 .i64 ((z15 q_0 : Int) - 1)) (fun r2 => dI .i64 (ug r2 0) (fun x4 => dI .i64 (ug r2 1) (fun x5 => dI .i64 (ug r2 2) (fun x6 => 0 ≤ z13 .i64 ((z15 q_0 : Int) - 1) ∧ z13 .i64 ((z15 q_0 : Int) - 1) ≤ (z15 q_0 : Int) ∧ (bif decide (k < z13 .i64 ((z15 q_0 : Int) - 1)) then 0 ≤ k ∧ k < (z15 (List.take (z16 (z13 .i64 ((z15 q_0 : Int) - 1))) q_0) : Int) ∧ (PRun Tryz.prog 148 [.c [.w 1, .m 2, .i q_2, .i q_3], .w 136 3 (z2q (List.take (z16 (z13 .i64 ((z15 q_0 : Int) - 1))) q_0) (z16 k) [.n x4, .n x5, .n x6]), .p .n 1 false (zdf (zof q_1 (.n x2)) (.n x5) [.n k])] [.r 0 0, .i k] (post [] [.c [.ow 136 3, .m 2, .i .i64, .i .i64], .X, .mp .n 1 false] (fun l1 x7 x8 m1 => (mO (ze5 m1 (.n x5)) (fun r3 => (dI .i64 (ug r3 0) (fun x9 => PRun Tryz.prog 149 [.c [.w 1, .m 2, .i x7, .i x8], .w 136 3 l1, .p .n 1 false m1] [.r 0 0, .i x9] (post [] [.c [.ow 136 3, .m 2, .i .i64, .i .i64], .X, .mp .n 1 false] (fun l2 x10 x11 m2 => (Q (.a [.i x1, .i x2, .i x3]) [.c [.w 3, .m 2, .i x10, .i x11], .x, .p .n 1 false m2, .w 136 3 l2] : Prop)))) : Prop)) (PRun Tryz.prog 149 [.c [.w 1, .m 2, .i x7, .i x8], .w 136 3 l1, .p .n 1 false m1] [.r 0 0, .i 0] (post [] [.c [.ow 136 3, .m 2, .i .i64, .i .i64], .X, .mp .n 1 false] (fun l3 x12 x13 m3 => (Q (.a [.i x1, .i x2, .i x3]) [.c [.w 3, .m 2, .i x12, .i x13], .x, .p .n 1 false m3, .w 136 3 l3] : Prop)))) : Prop)))) else Q (.a [.i x1, .i x2, .i x3]) [.c [.w 3, .m 2, .i q_2, .i q_3], .x, .p .n 1 false (zof q_1 (.n x2)), .w 136 3 (List.take (z16 (z13 .i64 ((z15 q_0 : Int) - 1))) q_0)])))))))))))) : PRun Tryz.prog 103 [.c [.w 1, .m 2, .i q_2, .i q_3], .w 136 3 q_0, .p .n 1 false q_1] [.r 0 0, .i k] Q :=
 zak ztq Tryz.func103 (by kernel_rfl) (H := ⟨[], [], [147], [], [], false, 64, KN.no, false, SP.no⟩) (n := 3) (by kernel_rfl) hh
theorem S99 {q_0 : List (List U)} {q_1 : List (MK × List U)} {q_2 : Int} {q_3 : Int} {at0 : Int} {what : Int} {Q : V → Mem → Prop} (hh : PRun Tryz.prog 121 [.c [.w 1, .m 2, .i q_2, .i (z13 .i64 (q_3 + 1))], .w 136 3 q_0, .p .n 1 false q_1] [.r 0 0, .a [.i at0, .i q_3, .i what]] (post [] [.c [.ow 136 3, .m 2, .i .i64, .i .i64], .X, .mp .n 1 false] (fun l1 x1 x2 m1 => (Q (.i q_3) [.c [.w 3, .m 2, .i x1, .i x2], .x, .p .n 1 false m1, .w 136 3 l1] : Prop)))) : PRun Tryz.prog 99 [.c [.w 1, .m 2, .i q_2, .i q_3], .w 136 3 q_0, .p .n 1 false q_1] [.r 0 0, .i at0, .i what] Q :=
 zak ztq Tryz.func99 (by kernel_rfl) (H := ⟨[], [], [], [], [], false, 64, KN.no, false, SP.no⟩) (n := 2) (by kernel_rfl) hh
theorem S43 {q_0 : List (List U)} {q_1 : List (MK × List U)} {q_2 : Int} {q_3 : Int} {at0 : Int} {what : Int} {Q : V → Mem → Prop} (hh : bif decide (at0 < 0) then Q (.t [.i 0, .i 1]) [.c [.w 1, .m 2, .i q_2, .i q_3], .w 136 3 q_0, .p .n 1 false q_1] else (bif decide ((z15 q_0 : Int) ≥ q_2) then Q (.t [.i 0, .i 4]) [.c [.w 1, .m 2, .i q_2, .i q_3], .w 136 3 q_0, .p .n 1 false q_1] else (bif q_3 == 1099511627776 then Q (.t [.i 0, .i 4]) [.c [.w 1, .m 2, .i q_2, .i q_3], .w 136 3 q_0, .p .n 1 false q_1] else PRun Tryz.prog 99 [.c [.w 1, .m 2, .i q_2, .i q_3], .w 136 3 q_0, .p .n 1 false q_1] [.r 0 0, .i at0, .i what] (post [.I] [.c [.ow 136 3, .m 2, .i .i64, .i .i64], .X, .mp .n 1 false] (fun x1 l1 x2 x3 m1 => (Q (.t [.i x1, .i 0]) [.c [.w 3, .m 2, .i x2, .i x3], .x, .p .n 1 false m1, .w 136 3 l1] : Prop)))))) : PRun Tryz.prog 43 [.c [.w 1, .m 2, .i q_2, .i q_3], .w 136 3 q_0, .p .n 1 false q_1] [.r 0 0, .i at0, .i what] Q :=
 zak ztq Tryz.func43 (by kernel_rfl) (H := ⟨[], [], [98], [], [], false, 64, KN.no, false, SP.no⟩) (n := 3) (by kernel_rfl) hh
theorem S113 {q_0 : List (List U)} {q_1 : List (MK × List U)} {q_2 : Int} {q_3 : Int} {id : Int} {Q : V → Mem → Prop} (hh : mO (ze5 q_1 (.n id)) (fun r1 => (dI .i64 (ug r1 0) (fun x1 => PRun Tryz.prog 103 [.c [.w 1, .m 2, .i q_2, .i q_3], .w 136 3 q_0, .p .n 1 false q_1] [.r 0 0, .i x1] (post [.agg [.i .i64, .i .i64, .i .i64]] [.c [.ow 136 3, .m 2, .i .i64, .i .i64], .X, .mp .n 1 false] (fun x2 x3 x4 l1 x5 x6 m1 => (Q (.i 0) [.c [.w 3, .m 2, .i x5, .i x6], .x, .p .n 1 false m1, .w 136 3 l1] : Prop)))) : Prop)) (Q (.i 3) [.c [.w 1, .m 2, .i q_2, .i q_3], .w 136 3 q_0, .p .n 1 false q_1])) : PRun Tryz.prog 113 [.c [.w 1, .m 2, .i q_2, .i q_3], .w 136 3 q_0, .p .n 1 false q_1] [.r 0 0, .i id] Q :=
 zak ztq Tryz.func113 (by kernel_rfl) (H := ⟨[], [], [98, 102], [], [], false, 64, KN.no, false, SP.no⟩) (n := 4) (by kernel_rfl) hh
theorem S50 {q_0 : List (List U)} {q_1 : List (MK × List U)} {q_2 : Int} {q_3 : Int} {id : Int} {at0 : Int} {Q : V → Mem → Prop} (hh : ∀ k1 : Int → Int → Prop, (∀ x1 : Int, ∀ x2 : Int, ((bif x2 != 0 then Q (.t [.i 0, .i x2]) [.c [.w 1, .m 2, .i q_2, .i q_3], .w 136 3 q_0, .p .n 1 false q_1] else (bif decide (at0 < 0) then Q (.t [.i 0, .i 1]) [.c [.w 1, .m 2, .i q_2, .i q_3], .w 136 3 q_0, .p .n 1 false q_1] else (bif q_3 == 1099511627776 then Q (.t [.i 0, .i 4]) [.c [.w 1, .m 2, .i q_2, .i q_3], .w 136 3 q_0, .p .n 1 false q_1] else PRun Tryz.prog 103 [.c [.w 1, .m 2, .i q_2, .i q_3], .w 136 3 q_0, .p .n 1 false q_1] [.r 0 0, .i x1] (post [.agg [.i .i64, .i .i64, .i .i64]] [.c [.ow 136 3, .m 2, .i .i64, .i .i64], .X, .mp .n 1 false] (fun x3 x4 x5 l1 x6 x7 m1 => (PRun Tryz.prog 99 [.c [.w 1, .m 2, .i x6, .i x7], .w 136 3 l1, .p .n 1 false m1] [.r 0 0, .i at0, .i x5] (post [.I] [.c [.ow 136 3, .m 2, .i .i64, .i .i64], .X, .mp .n 1 false] (fun x8 l2 x9 x10 m2 => (Q (.t [.i x8, .i 0]) [.c [.w 3, .m 2, .i x9, .i x10], .x, .p .n 1 false m2, .w 136 3 l2] : Prop))) : Prop))))))) → k1 x1 x2) → mO (ze5 q_1 (.n id)) (fun r1 => (dI .i64 (ug r1 0) (fun x11 => k1 x11 0) : Prop)) (k1 0 3)) : PRun Tryz.prog 50 [.c [.w 1, .m 2, .i q_2, .i q_3], .w 136 3 q_0, .p .n 1 false q_1] [.r 0 0, .i id, .i at0] Q :=
 zak ztq Tryz.func50 (by kernel_rfl) (H := ⟨[], [((50, 2, 3), ⟨[(8, .I), (9, .I)], []⟩)], [98, 102], [], [], false, 64, KN.no, false, SP.no⟩) (n := 4) (by kernel_rfl) hh
theorem S61 {q_0 : List (List U)} {q_1 : List (MK × List U)} {q_2 : Int} {q_3 : Int} {now : Int} {Q : V → Mem → Prop} (hh : bif (z15 q_0 : Int) == 0 then Q (.t [.a [.i 0, .i 0, .i 0], .u (.b false)]) [.c [.w 1, .m 2, .i q_2, .i q_3], .w 136 3 q_0, .p .n 1 false q_1] else 0 ≤ (0 : Int) ∧ (0 : Int) < (z15 q_0 : Int) ∧ (elL q_0 0 (fun r1 => dI .i64 (ug r1 0) (fun x1 => dI .i64 (ug r1 1) (fun x2 => dI .i64 (ug r1 2) (fun x3 => (bif decide (x1 > now) then Q (.t [.a [.i 0, .i 0, .i 0], .u (.b false)]) [.c [.w 1, .m 2, .i q_2, .i q_3], .w 136 3 q_0, .p .n 1 false q_1] else PRun Tryz.prog 103 [.c [.w 1, .m 2, .i q_2, .i q_3], .w 136 3 q_0, .p .n 1 false q_1] [.r 0 0, .i 0] (post [.agg [.i .i64, .i .i64, .i .i64]] [.c [.ow 136 3, .m 2, .i .i64, .i .i64], .X, .mp .n 1 false] (fun x4 x5 x6 l1 x7 x8 m1 => (Q (.t [.a [.i x4, .i x5, .i x6], .u (.b true)]) [.c [.w 3, .m 2, .i x7, .i x8], .x, .p .n 1 false m1, .w 136 3 l1] : Prop)))))))))) : PRun Tryz.prog 61 [.c [.w 1, .m 2, .i q_2, .i q_3], .w 136 3 q_0, .p .n 1 false q_1] [.r 0 0, .i now] Q :=
 zak ztq Tryz.func61 (by kernel_rfl) (H := ⟨[], [], [98, 119], [], [], false, 64, KN.no, false, SP.no⟩) (n := 4) (by kernel_rfl) hh
end
section
variable {Q : V → Mem → Prop}
theorem zg6 {i j : Nat} (h : 0 < i) : par i = j ↔ i = 2 * j + 1 ∨ i = 2 * j + 2 := by unfold par; omega
def DwI (xs : List Tm) (t : Tm) (x : Int) (l : List (List U)) (m' : List (MK × List U)) : Prop :=
 ∃ (j : Nat) (zs ys : List Tm), x = (j : Int) ∧ l = zs.map rT ∧ zs.set j t = ys ∧ ys[j]? = some t ∧ ys.Perm xs ∧ HpE ys j ∧ UpOK ys j ∧ MEx m' ys j
def DTail (xs : List Tm) (t : Tm) (be x4 : Int) (l1 : List (List U)) (m1 : List (MK × List U)) (E : Prop) : Prop :=
 bif decide (be ≥ (z15 l1 : Int)) then E
 else 0 ≤ be ∧ be < (z15 l1 : Int) ∧ (elL l1 be (fun r4 => dI .i64 (ug r4 0) (fun x12 => dI .i64 (ug r4 1) (fun x13 => dI .i64 (ug r4 2) (fun x14 => PRun Tryz.prog 134 [] [.a [.i x12, .i x13, .i x14], .a [.i t.1, .i t.2.1, .i t.2.2]] (post [.I] [] (fun x15 => (bif decide (x15 > 0) then E
  else 0 ≤ be ∧ be < (z15 l1 : Int) ∧ (elL l1 be (fun r5 => dI .i64 (ug r5 0) (fun x16 => dI .i64 (ug r5 1) (fun x17 => dI .i64 (ug r5 2) (fun x18 => 0 ≤ x4 ∧ x4 < (z15 l1 : Int) ∧ (DwI xs t be (z2q l1 (z16 x4) [.n x16, .n x17, .n x18]) (zdf m1 (.n x17) [.n x4]) ∧ xs.length - be.toNat < xs.length - x4.toNat)))))) : Prop))))))))
theorem dTail {xs zs ys : List Tm} {m3 : List (MK × List U)} {t : Tm} {j be : Nat} {E : Prop} (hset : zs.set j t = ys) (hj : ys[j]? = some t) (hperm : ys.Perm xs) (hi : Ids xs) (hH : HpE ys j) (hU : UpOK ys j) (hM : MEx m3 ys j) (hn : xs.length ≤ 1000000)
 (hE : IsHeap ys → E) (hbe : be = 2 * j + 1 ∨ be = 2 * j + 2) (hno : ¬ be < ys.length → ∀ i, 0 < i → par i = j → ys[i]? = none)
 (hsm : ∀ u, ys[be]? = some u → ∀ i w, 0 < i → par i = j → ys[i]? = some w → leT u w) : DTail xs t (be : Int) (j : Int) (zs.map rT) m3 E := by
 have hlz : zs.length = ys.length := by rw [← hset, z3d]
 have hly : ys.length = xs.length := hperm.length_eq
 have hjl := (z2a.1 hj).1
 have hiy : Ids ys := zem hperm hi
 have hzy : ∀ i, i ≠ j → zs[i]? = ys[i]? := fun i hij => by rw [← hset, z23 (Ne.symm hij)]
 have hb0 : 0 < be := by omega
 have hpb : par be = j := (zg6 hb0).2 hbe
 unfold DTail
 rw [z2d]
 refine cIf (fun hge => ?_) (fun hlt => ?_)
 · exact hE (hH.heap hU fun i hi0 hpi x y hx hy => by rw [hno (by omega) i hi0 hpi] at hy; cases hy)
 have hbl : be < ys.length := by omega
 obtain ⟨u, hu⟩ : ∃ u, ys[be]? = some u := ⟨ys[be], z2c hbl⟩
 have hbj : be ≠ j := by omega
 have huz : zs[be]? = some u := (hzy be hbj).trans hu
 refine ⟨by omega, by omega, ?_⟩
 rw [zav (r := rT u) (by omega) (by simp [huz])]
 simp only [rT, ug0, ugs, zcs]
 refine zlw fun x hx1 hx2 => ?_
 rw [zax]
 refine cIf (fun hgt => ?_) (fun hle => ?_)
 · refine hE (hH.heap hU fun i hi0 hpi p w hp hw => ?_)
   rw [hpi, hj] at hp
   cases hp
   exact (leT.total (hx1.1 hgt)).trans (hsm u hu i w hi0 hpi hw)
 · have hut : leT u t := Decidable.byContradiction fun hc => hle (hx1.2 hc)
   refine ⟨by omega, by omega, ?_⟩
   rw [zav (r := rT u) (by omega) (by simp [huz])]
   simp only [rT, ug0, ugs, zcs]
   obtain ⟨hdo, hup⟩ := hH.down hb0 hpb hj hu hut (fun i w h1 h2 h3 => hsm u hu i w h1 h2 h3)
   refine ⟨by omega, by omega, ⟨be, zs.set j u, swp ys j be t u, rfl, ?_, ?_, ?_, (zje hj hu (Ne.symm hbj)).trans hperm, hdo, hup, hM.move hiy hj hu (Ne.symm hbj)⟩, by simp only [z27]; omega⟩
   · rw [z27, z43]
   · unfold swp
     rw [← hset, List.set_set]
   · rw [zh2 hjl hbl (Ne.symm hbj), if_neg hbj, if_pos rfl]
theorem down_S {xs : List Tm} {m : List (MK × List U)} {most next : Int} {k : Nat} {t : Tm} (hk : xs[k]? = some t) (hn : xs.length ≤ 1000000) (hi : Ids xs) (hH : HpE xs k) (hU : UpOK xs k) (hM : MEx m xs k)
 (K : ∀ (ys : List Tm) (m' : List (MK × List U)), ys.Perm xs → QInv ys m' → Q (.t []) (qM ys m' most next)) :
 PRun Tryz.prog 149 (qM xs m most next) [.r 0 0, .i (k : Int)] Q := by
 have hkl := (z2a.1 hk).1
 refine S149 ⟨by omega, by rw [z2d]; omega, ?_⟩
 rw [zav (r := rT t) (by omega) (by simp [hk])]
 simp only [rT, ug0, ugs, zcs]
 refine ⟨DwI xs t, fun x _ _ => xs.length - x.toNat, ⟨k, xs, xs, rfl, rfl, zuy hk, hk, .refl _, hH, hU, hM⟩, ?_⟩
 rintro _ _ m3 ⟨j, zs, ys, rfl, rfl, hset, hj, hperm, hH3, hU3, hM3⟩
 have hlz : zs.length = ys.length := by rw [← hset, z3d]
 have hly : ys.length = xs.length := hperm.length_eq
 have hjl := (z2a.1 hj).1
 have hiy : Ids ys := zem hperm hi
 have hzy : ∀ i, i ≠ j → zs[i]? = ys[i]? := fun i hij => by rw [← hset, z23 (Ne.symm hij)]
 have hw1 : z13 .i64 (z13 .i64 (2 * (j : Int)) + 1) = ((2 * j + 1 : Nat) : Int) := by rw [w64 (x := 2 * (j : Int)) (by omega) (by omega), w64 (by omega) (by omega)]; omega
 have hw2 : z13 .i64 (((2 * j + 1 : Nat) : Int) + 1) = ((2 * j + 2 : Nat) : Int) := by rw [w64 (by omega) (by omega)]; omega
 rw [hw1, hw2]
 have hend : IsHeap ys → 0 ≤ (j : Int) ∧ (j : Int) < ((zs.map rT).length : Int) ∧ Q (.t []) [.c [.w 1, .m 2, .i most, .i next], .w 136 3 (z2q (zs.map rT) (z16 (j : Int)) [.n t.1, .n t.2.1, .n t.2.2]), .p .n 1 false (zdf m3 (.n t.2.1) [.n (j : Int)])] := fun hh => by
  refine ⟨by omega, by rw [z2d]; omega, ?_⟩
  have e : z2q (zs.map rT) (z16 (j : Int)) (rT t) = ys.map rT := by rw [z27, ← hset, z43]
  rw [show ([.n t.1, .n t.2.1, .n t.2.2] : List U) = rT t from rfl, e]
  exact K ys _ hperm ⟨hh, hM3.close hiy hj, hiy⟩
 have tl := fun (be : Nat) => dTail (be := be) hset hj hperm hi hH3 hU3 hM3 hn hend
 refine cIf (fun hlt => ?_) (fun hge => ?_)
 · rw [z2d] at hlt
   have l1 : 2 * j + 1 < ys.length := by omega
   have l2 : 2 * j + 2 < ys.length := by omega
   obtain ⟨u, hu⟩ : ∃ u, ys[2 * j + 1]? = some u := ⟨ys[2 * j + 1], z2c l1⟩
   obtain ⟨w, hw⟩ : ∃ w, ys[2 * j + 2]? = some w := ⟨ys[2 * j + 2], z2c l2⟩
   refine ⟨by omega, by rw [z2d]; omega, ?_⟩
   rw [zav (r := rT w) (by omega) (by have := (hzy (2 * j + 2) (by omega)).trans hw; simp only [z27, z2i, this, z3h])]
   simp only [rT, ug0, ugs, zcs]
   refine ⟨by omega, by rw [z2d]; omega, ?_⟩
   rw [zav (r := rT u) (by omega) (by have := (hzy (2 * j + 1) (by omega)).trans hu; simp only [z27, z2i, this, z3h])]
   simp only [rT, ug0, ugs, zcs]
   refine zlw fun x hx1 hx2 => ?_
   rw [zax]
   refine cIf (fun hl => ?_) (fun hl => ?_)
   · have hwu := leT.total (hx2.1 hl)
     exact tl (2 * j + 2) (.inr rfl) (fun hc => absurd l2 hc) fun u' hu' i w' hi0 hpi hw' => by
      rw [hw] at hu'; cases hu'
      rcases (zg6 hi0).1 hpi with rfl | rfl
      · rw [hu] at hw'; cases hw'; exact hwu
      · rw [hw] at hw'; cases hw'; exact .refl _
   · have huw : leT u w := Decidable.byContradiction fun hc => hl (hx2.2 hc)
     exact tl (2 * j + 1) (.inl rfl) (fun hc => absurd l1 hc) fun u' hu' i w' hi0 hpi hw' => by
      rw [hu] at hu'; cases hu'
      rcases (zg6 hi0).1 hpi with rfl | rfl
      · rw [hu] at hw'; cases hw'; exact .refl _
      · rw [hw] at hw'; cases hw'; exact huw
 · rw [z2d] at hge
   exact tl (2 * j + 1) (.inl rfl) (fun hc i hi0 hpi => z3u (by rcases (zg6 hi0).1 hpi with rfl | rfl <;> omega)) fun u' hu' i w' hi0 hpi hw' => by
    rcases (zg6 hi0).1 hpi with rfl | rfl
    · rw [hu'] at hw'; cases hw'; exact .refl _
    · have := (z2a.1 hw').1; omega
end
section
variable {Q : V → Mem → Prop}
theorem IsHeap.take {xs : List Tm} (h : IsHeap xs) (j : Nat) : IsHeap (xs.take j) := fun i hi x y hx hy => by
 rw [z37] at hx hy
 split at hx
 · split at hy
   · exact h i hi x y hx hy
   · cases hy
 · cases hx
theorem pull_eq {xs : List Tm} {k n : Nat} {t w : Tm} (hk : xs[k]? = some t) (hw : xs[n]? = some w) (hn : xs.length = n + 1) (hkn : k < n) : swp xs k n t w = (xs.take n).set k w ++ [t] := by
 have hl : ((xs.take n).set k w).length = n := by rw [z3d, z33]; omega
 apply z4o
 intro i
 rw [zh2 (by omega) (by omega) (by omega)]
 by_cases h1 : i = k
 · subst h1
   rw [if_pos rfl, z2k (by omega), z3x (by rw [z33]; omega)]
 · rw [if_neg h1]
   by_cases h2 : i = n
   · subst h2
     rw [if_pos rfl, z2t (by omega), hl, Nat.sub_self]; rfl
   · rw [if_neg h2]
     by_cases h3 : i < n
     · rw [z2k (by omega), z23 (Ne.symm h1), z37, if_pos h3]
     · rw [z3u (by omega), z3u (by rw [z2z, hl]; simp; omega)]
theorem MAll.mex {m : List (MK × List U)} {ys : List Tm} (h : MAll m ys) (k : Nat) : MEx m ys k := ⟨fun i x hx _ => h.pos i x hx, h.only, h.nd⟩
theorem zz6 {xs : List Tm} {m : List (MK × List U)} {most next : Int} {k : Nat} {t : Tm} (h : QInv xs m) (hk : xs[k]? = some t) (hn : xs.length ≤ 100000)
 (K : ∀ (ys : List Tm) (m' : List (MK × List U)), QInv ys m' → (t :: ys).Perm xs → Q (tV t) (qN ys m' most next)) :
 PRun Tryz.prog 103 (qM xs m most next) [.r 0 0, .i (k : Int)] Q := by
 have hkl := (z2a.1 hk).1
 obtain ⟨n, hln⟩ : ∃ n, xs.length = n + 1 := ⟨xs.length - 1, by omega⟩
 obtain ⟨w, hw⟩ : ∃ w, xs[n]? = some w := ⟨xs[n]'(by omega), z2c (by omega)⟩
 have ew : z13 .i64 ((z15 (xs.map rT) : Int) - 1) = (n : Int) := by rw [z2d, hln, w64 (by omega) (by omega)]; omega
 refine S103 ⟨by omega, by rw [z2d]; omega, ?_⟩
 rw [zav (r := rT t) (by omega) (by simp [hk])]
 simp only [rT, ug0, ugs, zcs]
 rw [ew]
 refine ⟨by omega, by rw [z2d]; omega, ?_⟩
 rw [zav (r := rT w) (by omega) (by simp [hw])]
 simp only [rT, ug0, ugs, zcs]
 refine ⟨by omega, by rw [z2d]; omega, ?_⟩
 rw [z27, z27]
 have et : List.take n (xs.map rT) = (xs.take n).map rT := by rw [z5b]
 rw [show (xs.map fun t => ([.n t.1, .n t.2.1, .n t.2.2] : List U)) = xs.map rT from rfl, et]
 refine cIf (fun hlt => ?_) fun hge => ?_
 · have hkn : k < n := by omega
   refine ⟨by omega, by rw [z2d, z33]; omega, ?_⟩
   have es : z2q ((xs.take n).map rT) k [.n w.1, .n w.2.1, .n w.2.2] = ((xs.take n).set k w).map rT := by rw [z43]
   rw [es]
   have hsw := pull_eq hk hw hln hkn
   have hp : (t :: (xs.take n).set k w).Perm xs := by
    refine (z5a (l₁ := [t]) (l₂ := (xs.take n).set k w)).trans ?_
    rw [← hsw]; exact zje hk hw (by omega)
   have hl : ((xs.take n).set k w).length = n := by rw [z3d, z33]; omega
   have hiz : Ids ((xs.take n).set k w) := by
    have : Ids (t :: (xs.take n).set k w) := zem hp h.ids
    exact (z4d.1 this).2
   have hzk : ((xs.take n).set k w)[k]? = some w := z3x (by rw [z33]; omega)
   have hzi : ∀ i, i ≠ k → i < n → ((xs.take n).set k w)[i]? = xs[i]? := fun i h1 h2 => by rw [z23 (Ne.symm h1), z37, if_pos h2]
   have hM : MEx (zdf (zof m (.n t.2.1)) (.n w.2.1) [.n (k : Int)]) ((xs.take n).set k w) k := by
    refine ⟨fun i x hx hik => ?_, fun id r hr => ?_, zod _ _ (zte _ h.all.nd)⟩
    · have hin : i < n := by have := (z2a.1 hx).1; omega
      rw [hzi i hik hin] at hx
      rw [zcl, if_neg (fun e => by injection e with e; have := h.ids.inj hx hw e.symm; omega), zg1 _ _ h.all.nd, if_neg (fun e => by injection e with e; exact hik (h.ids.inj hx hk e.symm))]
      exact h.all.pos i x hx
    · rw [zcl] at hr
      by_cases e : (MK.n w.2.1) = .n id
      · injection e with e; exact ⟨w, z2y hzk, e⟩
      · rw [if_neg e, zg1 _ _ h.all.nd] at hr
        by_cases e2 : (MK.n t.2.1) = .n id
        · rw [if_pos e2] at hr; cases hr
        · rw [if_neg e2] at hr
          obtain ⟨x, hx, he⟩ := h.all.only id r hr
          rcases z2e.1 (hp.mem_iff.2 hx) with rfl | hx
          · exact absurd (by rw [he]) e2
          · exact ⟨x, hx, he⟩
   refine upQ_S hzk (by omega) hiz ((h.heap.take n).he k |>.set w) hM fun ys m' k' hperm hHE hU hkt hMA hdn => ?_
   show mO (ze5 m' (.n w.2.1)) _ _
   rw [hMA.pos k' w hkt]
   simp only [mO, ug0, zcs]
   refine down_S hkt (by have := hperm.length_eq; omega) (zem hperm hiz) hHE hU (hMA.mex k') fun zs m2 hperm2 hq => ?_
   exact K zs m2 hq (((hperm2.trans hperm).cons t).trans hp)
 · have hkn : k = n := by omega
   subst hkn
   rw [hk] at hw; cases hw
   have hp : (t :: xs.take k).Perm xs := by
    refine (z5a (l₁ := [t]) (l₂ := xs.take k)).trans ?_
    have : xs.take k ++ [t] = xs := by
     have := z4c k xs
     rw [z4w hkl, List.drop_of_length_le (by omega)] at this
     rw [z2c hkl] at hk
     cases hk
     exact this
    rw [this]
   have hiz : Ids (t :: xs.take k) := zem hp h.ids
   refine K (xs.take k) (zof m (.n t.2.1)) ⟨h.heap.take k, ⟨fun i x hx => ?_, fun id r hr => ?_, zte _ h.all.nd⟩, (z4d.1 hiz).2⟩ hp
   · rw [z37] at hx
     split at hx
     · rw [zg1 _ _ h.all.nd, if_neg (fun e => by injection e with e; have := h.ids.inj hx hk e.symm; omega)]
       exact h.all.pos i x hx
     · cases hx
   · rw [zg1 _ _ h.all.nd] at hr
     by_cases e2 : (MK.n t.2.1) = .n id
     · rw [if_pos e2] at hr; cases hr
     · rw [if_neg e2] at hr
       obtain ⟨x, hx, he⟩ := h.all.only id r hr
       rcases z2e.1 (hp.mem_iff.2 hx) with rfl | hx
       · exact absurd (by rw [he]) e2
       · exact ⟨x, hx, he⟩
end
section
variable {Q : V → Mem → Prop}
theorem zq4 {xs : List Tm} {m : List (MK × List U)} {most next at0 what : Int} (h : QInv xs m) (ht : ∀ x ∈ xs, x.2.1 < next) (hn : xs.length ≤ 100000) (hx : 0 ≤ next ∧ next ≤ 1099511627776)
 (K : ∀ (ys : List Tm) (m' : List (MK × List U)), QInv ys m' → ys.Perm ((at0, next, what) :: xs) → Q (.i next) (qN ys m' most (next + 1))) :
 PRun Tryz.prog 99 (qM xs m most next) [.r 0 0, .i at0, .i what] Q := by
 refine S99 ?_
 rw [w64 (by omega) (by omega)]
 exact push_S (t := (at0, next, what)) h (fun x hx2 => by have := ht x hx2; show x.2.1 ≠ next; omega) hn fun ys m' hq hp => K ys m' hq hp
def qS (L : List Tm) (most next : Int) : Mem → Prop := fun M => ((L.length : Int) ≤ most ∧ most ≤ 1024 ∧ 1 ≤ next ∧ next ≤ 1099511627776 ∧ ∀ x ∈ L, x.2.1 < next) ∧ ∃ (xs : List Tm) (m : List (MK × List U)), QInv xs m ∧ xs.Perm L ∧ M = qM xs m most next
abbrev qO (L : List Tm) (most next : Int) : AB := .o (Ob.of (qS L most next))
theorem insert_S {L : List Tm} {most next at0 what : Int}
 (k1 : at0 < 0 → Q (.t [.i 0, .i 1]) [qO L most next]) (k2 : (L.length : Int) ≥ most ∨ next = 1099511627776 → Q (.t [.i 0, .i 4]) [qO L most next])
 (k3 : 0 ≤ at0 → (L.length : Int) < most → next ≠ 1099511627776 → Q (.t [.i next, .i 0]) [qO ((at0, next, what) :: L) most (next + 1)]) :
 PRun Tryz.prog 43 [qO L most next] [.r 0 0, .i at0, .i what] Q := by
 refine PRun.pack (args := [.i at0, .i what]) rfl ?_
 rintro M ⟨⟨h1, h2, h3, h4, h5⟩, xs, m, hq, hp, rfl⟩
 have hl := hp.length_eq
 have same : qS L most next (qM xs m most next) := ⟨⟨h1, h2, h3, h4, h5⟩, xs, m, hq, hp, rfl⟩
 refine S43 (cIf (fun h => ⟨rfl, _, _, .refl _, same, k1 h⟩) fun ha => ?_)
 rw [z2d]
 refine cIf (fun h => ⟨rfl, _, _, .refl _, same, k2 (.inl (by omega))⟩) fun hb => cEq (fun h => ⟨rfl, _, _, .refl _, same, k2 (.inr h)⟩) fun hc => ?_
 refine zq4 hq (fun x hx => h5 x (hp.mem_iff.1 hx)) (by omega) (by omega) fun ys m' hq' hp' => ?_
 refine ⟨rfl, _, qS ((at0, next, what) :: L) most (next + 1), zu6 _ _ _ _, ⟨⟨by simp only [z2o]; omega, h2, by omega, by omega, fun x hx => ?_⟩, ys, m', hq', hp'.trans (hp.cons _), rfl⟩, k3 (by omega) (by omega) hc⟩
 rcases z2e.1 hx with rfl | hx
 · show next < next + 1; omega
 · have := h5 x hx; omega
theorem QInv.find {xs : List Tm} {m : List (MK × List U)} (h : QInv xs m) (id : Int) : (ze5 m (.n id) = none ∧ ∀ x ∈ xs, x.2.1 ≠ id) ∨ ∃ (k : Nat) (t : Tm), xs[k]? = some t ∧ t.2.1 = id ∧ ze5 m (.n id) = some [.n (k : Int)] := by
 cases hg : ze5 m (.n id) with
 | none =>
   refine .inl ⟨rfl, fun x hx e => ?_⟩
   obtain ⟨k, hk⟩ := z3t.1 hx
   have := h.all.pos k x hk
   rw [e, hg] at this; cases this
 | some r =>
   obtain ⟨t, ht, e⟩ := h.all.only id r hg
   obtain ⟨k, hk⟩ := z3t.1 ht
   have := h.all.pos k t hk
   rw [e, hg] at this
   exact .inr ⟨k, t, hk, e, this⟩
theorem qS.less {L xs ys : List Tm} {t : Tm} {m' : List (MK × List U)} {most next : Int} (hL : (L.length : Int) ≤ most ∧ most ≤ 1024 ∧ 1 ≤ next ∧ next ≤ 1099511627776 ∧ ∀ x ∈ L, x.2.1 < next) (hp : xs.Perm L) (hq : QInv ys m') (hty : (t :: ys).Perm xs) : qS ys most next (qM ys m' most next) ∧ (t :: ys).Perm L := by
 have hpl := hty.trans hp
 have := hpl.length_eq
 simp only [z2o] at this
 exact ⟨⟨⟨by omega, hL.2.1, hL.2.2.1, hL.2.2.2.1, fun x hx => hL.2.2.2.2 x (hpl.mem_iff.1 (z2j _ hx))⟩, ys, m', hq, .refl _, rfl⟩, hpl⟩
theorem cancel_S {L : List Tm} {most next id : Int} (k1 : (∀ x ∈ L, x.2.1 ≠ id) → Q (.i 3) [qO L most next]) (k2 : ∀ (t : Tm) (L' : List Tm), (t :: L').Perm L → t.2.1 = id → Q (.i 0) [qO L' most next]) :
 PRun Tryz.prog 113 [qO L most next] [.r 0 0, .i id] Q := by
 refine PRun.pack (args := [.i id]) rfl ?_
 rintro M ⟨hL, xs, m, hq, hp, rfl⟩
 have hl := hp.length_eq
 refine S113 ?_
 rcases hq.find id with ⟨h1, h2⟩ | ⟨k, t, hk, e, h1⟩
 · rw [h1]
   exact ⟨rfl, _, _, .refl _, ⟨hL, xs, m, hq, hp, rfl⟩, k1 fun x hx => h2 x (hp.mem_iff.2 hx)⟩
 · rw [h1]
   simp only [mO, ug0, zcs]
   refine zz6 hq hk (by omega) fun ys m' hq' hty => ?_
   obtain ⟨h2, h3⟩ := qS.less hL hp hq' hty
   exact ⟨rfl, _, _, zu6 _ _ _ _, h2, k2 t ys h3 e⟩
theorem pop_S {L : List Tm} {most next now : Int} (k1 : (∀ x ∈ L, now < x.1) → Q (.t [.a [.i 0, .i 0, .i 0], .u (.b false)]) [qO L most next])
 (k2 : ∀ (t : Tm) (L' : List Tm), (t :: L').Perm L → t.1 ≤ now → (∀ x ∈ L, leT t x) → Q (.t [tV t, .u (.b true)]) [qO L' most next]) :
 PRun Tryz.prog 61 [qO L most next] [.r 0 0, .i now] Q := by
 refine PRun.pack (args := [.i now]) rfl ?_
 rintro M ⟨hL, xs, m, hq, hp, rfl⟩
 have hl := hp.length_eq
 have same : qS L most next (qM xs m most next) := ⟨hL, xs, m, hq, hp, rfl⟩
 refine S61 ?_
 rw [z2d]
 refine cEq (fun h => ?_) fun h => ?_
 · have : xs = [] := z6o.1 (by omega)
   subst this
   exact ⟨rfl, _, _, .refl _, same, k1 fun x hx => by have := hp.mem_iff.2 hx; simp at this⟩
 · obtain ⟨t, ht⟩ : ∃ t, xs[0]? = some t := ⟨xs[0]'(by omega), z2c (by omega)⟩
   have hfirst : ∀ x ∈ L, leT t x := fun x hx => by
    obtain ⟨i, hi⟩ := z3t.1 (hp.mem_iff.2 hx)
    exact hq.heap.first i t x ht hi
   refine ⟨by omega, by omega, ?_⟩
   rw [zav (r := rT t) (by omega) (by simp [ht])]
   simp only [rT, ug0, ugs, zcs]
   refine cIf (fun hgt => ⟨rfl, _, _, .refl _, same, k1 fun x hx => ?_⟩) fun hle => ?_
   · have := hfirst x hx; unfold leT at this; omega
   · refine zz6 (k := 0) hq ht (by omega) fun ys m' hq' hty => ?_
     obtain ⟨h2, h3⟩ := qS.less hL hp hq' hty
     exact ⟨rfl, _, _, zu6 _ _ _ _, h2, k2 t ys h3 (by omega) hfirst⟩
theorem moveT_S {L : List Tm} {most next id at0 : Int} (k1 : (∀ x ∈ L, x.2.1 ≠ id) → Q (.t [.i 0, .i 3]) [qO L most next]) (k2 : at0 < 0 → Q (.t [.i 0, .i 1]) [qO L most next]) (k4 : next = 1099511627776 → Q (.t [.i 0, .i 4]) [qO L most next])
 (k3 : ∀ (t : Tm) (L' : List Tm), (t :: L').Perm L → t.2.1 = id → 0 ≤ at0 → next ≠ 1099511627776 → Q (.t [.i next, .i 0]) [qO ((at0, next, t.2.2) :: L') most (next + 1)]) :
 PRun Tryz.prog 50 [qO L most next] [.r 0 0, .i id, .i at0] Q := by
 refine PRun.pack (args := [.i id, .i at0]) rfl ?_
 rintro M ⟨hL, xs, m, hq, hp, rfl⟩
 have hl := hp.length_eq
 have same : qS L most next (qM xs m most next) := ⟨hL, xs, m, hq, hp, rfl⟩
 refine S50 ?_
 intro k hk
 rcases hq.find id with ⟨h1, h2⟩ | ⟨j, t, hj, e, h1⟩
 · rw [h1]
   exact hk 0 3 ⟨rfl, _, _, .refl _, same, k1 fun x hx => h2 x (hp.mem_iff.2 hx)⟩
 · rw [h1]
   simp only [mO, ug0, zcs]
   refine hk (j : Int) 0 (cIf (fun h => ⟨rfl, _, _, .refl _, same, k2 h⟩) fun ha => cEq (fun h => ⟨rfl, _, _, .refl _, same, k4 h⟩) fun hc => ?_)
   refine zz6 hq hj (by omega) fun ys m' hq' hty => ?_
   obtain ⟨⟨⟨g1, g2, g3, g4, g5⟩, -⟩, h3⟩ := qS.less hL hp hq' hty
   have := h3.length_eq
   simp only [z2o] at this
   refine zq4 hq' g5 (by omega) (by omega) fun zs m2 hq2 hp2 => ?_
   refine ⟨rfl, _, qS ((at0, next, t.2.2) :: ys) most (next + 1), zu6 _ _ _ _, ⟨⟨by simp only [z2o]; omega, g2, by omega, by omega, fun x hx => ?_⟩, zs, m2, hq2, hp2, rfl⟩, k3 t ys h3 e (by omega) hc⟩
   rcases z2e.1 hx with rfl | hx
   · show next < next + 1; omega
   · have := g5 x hx; omega
end
section
open Go.Sort Go.Shelf
theorem PRun.run0 {P : Program} {g : FuncId} {args : List V} {Q : V → Mem → Prop} (hh : PRun P g [] args Q) {vs : List Value} (F : RpL (fun _ => none) [] vs args) (h : zac) :
 Run P g vs h fun v h' => Keep h h' ∧ ∃ D ρ x m', Rp D ρ v x ∧ Q x m' := by
 have hS : St (fun _ => none) [(z2b h.size).pmap (fun i hi => (i, h[i]'(by simpa using hi))) (fun i hi => z35.1 hi)] h := by
  refine ⟨?_, fun p hp => ?_, fun b o hb => by cases hb⟩
  · simp only [ids, z2n, z6a, z3a, List.map_pmap]
    have : (List.pmap (fun i (hi : i < h.size) => i) (z2b h.size) (fun i hi => z35.1 hi)) = z2b h.size := by
     rw [List.pmap_eq_map, List.map_id']
    rw [this]; exact List.nodup_range
  · simp only [z2n, z6a, z3a, List.mem_pmap] at hp
    obtain ⟨i, hi, rfl⟩ := hp
    have := z35.1 hi
    simp [this]
 refine (hh (fun _ => none) [] [] _ h vs ⟨rfl, rfl, fun i L ab ch h => by simp at h, by simpa using hS⟩ F).mono ?_
 rintro v h' ⟨D', ρ', chs', x, m', -, M, hv, hq⟩
 have key : ∀ i (hi : i < h.size), h'[i]? = some h[i] := fun i hi => by
  refine M.st.own (i, h[i]) ?_
  simp only [z21, z2f, z2n, z6a, z3a, List.mem_pmap]
  exact .inr ⟨i, z35.2 hi, rfl⟩
 refine ⟨⟨?_, fun b hb _ => by rw [key b hb]; simp [hb]⟩, D', _, x, m', hv, hq⟩
 rcases Nat.eq_zero_or_pos h.size with h0 | h0
 · omega
 · have := zbl (key (h.size - 1) (by omega))
   omega
theorem zs9 : ∀ (l : List Int), RpC (fun _ => none) [] (l.map (Value.int .i64)) (l.map V.i)
 | [] => .nil
 | x :: l => .cons (.u (.int _ _)) (by simp) (zs9 l)
theorem sortP {α : Type} [Inhabited α] {P : Program} {ρ0 : Go.Shelf.Ren} (L : SlLaysF0.n6 P ρ0) {f g : FuncId} (hf : ρ0.f 6 = f) (hc : zbp P f) (k : Nat) (aE : ∀ w, (isAgg (ρ0.t 24)).run P w = .ok true w) (zE : ∀ w, (Go.sizeOf (ρ0.t 24)).run P w = .ok k w)
 (en : α → List Int) (hk : ∀ x, (en x).length = k) (cf : α → α → Int) (hO : SWO (ltOf cf)) (hg : zbp P g) (hrun : ∀ x y, PRun P g [] [.a ((en x).map V.i), .a ((en y).map V.i)] fun v _ => v = .i (cf x y))
 {E : TypeId} {rows : List α} (hl : rows.length ≤ 1000000) {Q : V → Mem → Prop} (kk : ∀ r : List α, r.Perm rows → r.Pairwise (fun x y => cf y x < 0 → False) → Q (.t []) [.w E k (r.map fun x => (en x).map U.n)]) :
 PRun P f [.w E k (rows.map fun x => (en x).map U.n)] [.w 0, .f g [] []] Q := by
 intro D ρ chs C h vs M F
 cases F with
 | cons a1 F =>
 cases F with
 | cons a2 F =>
 cases F
 obtain ⟨L0, hL0, rfl⟩ := a1.w_inv
 obtain ⟨xs, ys, rfl, b1, b2⟩ := a2.f_inv
 cases b1; cases b2
 obtain ⟨L1, ch, g1, g2, g3⟩ := M.get (b := 0) (by simp [mg])
 rw [hL0] at g1; cases g1
 have hch : chs = [ch] := by
  have := M.lch
  match chs, this, g2 with
  | [c], _, g2 => simp at g2; rw [g2]
 subst hch
 have hρ : ρ = [L0] := by
  have := M.len
  match ρ, this, hL0 with
  | [c], _, g2 => simp at g2; rw [g2]
 subst hρ
 simp only [mg] at g3
 have S : St D (ch :: C) h := M.st
 cases g3 with
 | w own hn =>
   rw [z2d] at hn
   generalize hrr : rows.map (fun x => (en x).map U.n) = rr at own
   obtain ⟨Lb, La, Ln, Lc⟩ := L0
   simp only at own hn
   subst hn
   cases own with
   | nil =>
     have h0 : rows = [] := by simpa using hrr
     subst h0
     refine (zqh L hf hc).mono ?_
     rintro v h' ⟨rfl, rfl⟩
     exact ⟨D, [], [[]], .t [], _, .refl D, M, .t .nil, kk [] (.refl _) .nil⟩
   | row b Lc arr rr v h1 h2 h3 h4 h5 =>
     have hb := S.get (z2x _)
     refine (sortRun L hf hc k aE zE (fun x => (en x).map (Value.int .i64)) (fun x => by simp [hk]) (fun x v hv => by simp at hv; obtain ⟨n, -, rfl⟩ := hv; rfl) cf hO g hg (fun x y h => ?_) (d := rows) (cap := Lc) hb (fun i x hx j v' hv' => ?_) (by omega) (by rw [← hrr] at h2; simpa using h2)).mono ?_
     · refine ((hrun x y).run0 (vs := [.agg ((en x).map (Value.int .i64)).toArray, .agg ((en y).map (Value.int .i64)).toArray]) (.cons (.a (zs9 _)) (.cons (.a (zs9 _)) .nil)) h).mono ?_
       rintro v h' ⟨hkp, D', ρ', x', m', hv, rfl⟩
       refine ⟨?_, hkp⟩
       cases hv with | u hv => cases hv; rfl
     · have hr : rr[i]? = some ((en x).map U.n) := by rw [← hrr, z2i, hx]; rfl
       rw [z2i] at hv'
       obtain ⟨n, hn, rfl⟩ := z3k.1 hv'
       have hu : ((en x).map U.n)[j]? = some (.n n) := by rw [z2i, hn]; rfl
       have := h5 i j _ _ hr hu
       rw [h4 i j _ _ hr hu, Rd.int_iff.1 this]
     · rintro w h' ⟨rfl, kb, r, hp, hs, hsl, l', hl', hsz'⟩
       have hlen := hp.length_eq
       have own' : Own D E k (some ⟨b, 0, none⟩) Lc (r.map fun x => (en x).map U.n) [(b, .cells l' E (0, 0))] := by
        refine .row b Lc l' _ (fun i j => match r[i]? with | some x => .int .i64 ((en x).getD j 0) | none => undef) (by rw [hsz']; exact h1) (by rw [← hrr] at h2; simp at h2 ⊢; omega) (fun q hq => by obtain ⟨x, -, rfl⟩ := z20.1 hq; simp [hk]) (fun i j q u hi hj => ?_) (fun i j q u hi hj => ?_)
        · rw [z2i] at hi
          obtain ⟨x, hx, rfl⟩ := z3k.1 hi
          rw [z2i] at hj
          obtain ⟨n, hn, rfl⟩ := z3k.1 hj
          obtain ⟨b', o', e, hcell⟩ := hsl.2.2 i x hx
          cases e
          have := hcell j (.int .i64 n) (by rw [z2i, hn]; rfl)
          rw [zaz hl', z2l] at this
          rw [this]
          simp only [hx, z4g, hn, z3b]
        · rw [z2i] at hi
          obtain ⟨x, hx, rfl⟩ := z3k.1 hi
          rw [z2i] at hj
          obtain ⟨n, hn, rfl⟩ := z3k.1 hj
          simp only [hx, z4g, hn, z3b]
          exact .int _ _
       have S' : St D ([(b, .cells l' E (0, 0))] :: C) h' := S.upd (by simpa using kb) (by simpa using hl') (by simp) (by simp)
       refine ⟨D, [], [[(b, .cells l' E (0, 0))]], .t [], _, .refl D, ⟨rfl, rfl, fun i L ab ch h1 h2 h3 => ?_, S'⟩, .t .nil, kk r hp hs⟩
       cases i with
       | zero =>
         simp at h1 h2 h3
         subst h1 h2 h3
         exact .w own' (by simp [hlen])
       | succ i => simp at h2
end
section
attribute [local irreducible] znx zxu delK updK zxj zxh zm9 zxb znt zdw zf1 zgk
variable {P : Program} {D D' : Fz} {C : List zab} {h h' : zac}
section
variable {α : Type} {e : α → List U} {T E sz : Nat}
theorem app_e {a a2 : Option Addr} {c m n cx : Nat} {r r2 : List α} {ch : zab} {K : Value → zac → Prop} (ty : ElTy P T E sz) (own : Own D E sz a c (r.map e) ch) (S : St D (ch :: C) h) (src : Src D h sz a2 (r2.map e)) (hn : n = r.length) (hm : m = r2.length) (hb : r.length + r2.length ≤ 1000000)
 (hK : ∀ a' c' ch' h', Own D E sz a' c' ((r ++ r2).map e) ch' → St D (ch' :: C) h' → K (.slice a' (r ++ r2).length c') h') : znx P #[T, T] T (.slice a n c) (.slice a2 m cx) h K := by
 obtain ⟨hT, i, z, hi, hsz, hby, hby2, hz, hzs⟩ := ty
 subst hm hn
 by_cases hr2 : r2 = []
 · subst hr2
   refine zfn (E := E) hT hi (by simpa using own.len) ?_
   simpa using hK a c ch h (by simpa using own) S
 subst hsz
 have hl : r.length = (r.map e).length := by simp
 rw [hl]
 have hbd : (2 * ((r.map e).length + (r2.map e).length) + 512) * i.bytes ≤ 281474976710656 := by
  simp only [z2d]
  have := Nat.mul_le_mul (show 2 * (r.length + r2.length) + 512 ≤ 2000512 by omega) hby2
  omega
 refine Own.app own S hT hi hz hzs hby src (by simp) hbd (by simpa using hr2) fun a' c' ch' h' own' S' => ?_
 rw [← z28] at own'
 rw [← z28, z2d]
 exact hK a' c' ch' h' own' S'
theorem src_one {b : Nat} {T' : TypeId} {f : Nat × Nat} {vs : List Value} {c0 : zab} {x : α} (S : St D (c0 :: [(b, Obj.cells ⟨vs⟩ T' f)] :: C) h) (he : ∀ x, (e x).length = sz) (hv : RdL D vs (e x)) : Src D h sz (some ⟨b, 0, none⟩) ([x].map e) :=
 Src.one (c := []) S (z2j _ z2p) hv (he x)
end
theorem callV_1 {P : Program} {g : FuncId} {args : List Value} {c : Value} {h : zac} {R : Value → zac → Prop} (hr : Run P g (args ++ [c]) h R) : zsn P (.func (.func g) #[] #[c]) args h R := by
 unfold zsn
 simpa using hr
end
end Go.Proofs.YtalglagdgabafaaGreat
