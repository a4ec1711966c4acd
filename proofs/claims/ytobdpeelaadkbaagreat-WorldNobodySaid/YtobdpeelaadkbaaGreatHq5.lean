/- Runs piece by piece: regions that draw their order, with calls that are known. -/
import Derived.Test.YtobdpeelaadkbaaGreatHq4
import Derived.Test.YtobdpeelaadkbaaGreatProg
import Derived.RecoverIn
set_option linter.unusedVariables false
namespace Go.Proofs.YtobdpeelaadkbaaGreat
abbrev Res := Ex × Fr × Mem
abbrev zg7 := List Res
abbrev SelfE := Nat → List Nat → List Nat → Code → Fr → Mem → Option zg7
inductive YE where
 | out
 | rd
 | it (b : Nat) (f : List Nat → List Nat → List V → Mem → Option Out)
def YE.sub : YE → YE
 | .it b f => .it b f
 | _ => .out
def YE.h (Y : YE) (ro hr : List Nat) (b : Nat) (args : List V) (m : Mem) : Option Out :=
 match Y with
 | .it b' f => cond (Nat.beq b b') (f ro hr args m) none
 | _ => none
def YE.Ok : YE → YC → Prop
 | .out, .out => True
 | .rd, .rd => True
 | .it b f, .it b' f' => b = b' ∧ ∀ {ro hr : List Nat} {args : List V} {m : Mem} {rs : Out} {K : V → Mem → Prop}, f ro hr args m = some rs → (∀ r ∈ rs, K r.1 r.2) → f' ro hr args m K
 | _, _ => False
theorem YE.Ok.sub {Y : YE} {Z : YC} (h : Y.Ok Z) : Y.sub.Ok Z.sub := by
 cases Y <;> cases Z <;> first | exact h.elim | trivial | exact h
theorem YE.Ok.yh {Y : YE} {Z : YC} (h : Y.Ok Z) {ro hr : List Nat} : YhOk (Y.h ro hr) (Z.h ro hr) := by
 intro b args m rs K h1 hK
 cases Y <;> cases Z <;> first | exact h.elim | (cases h1; done) | skip
 obtain ⟨rfl, hf⟩ := h
 simp only [YE.h] at h1
 simp only [YC.h]
 obtain ⟨h2, h3⟩ := zaf h1
 rw [h2]
 exact hf h3 hK
abbrev SelfYE := YE → SelfE
noncomputable def normGF (P : Program) (Ts : List TypeId) (vs : List V) : List V :=
 List.rec (motive := fun _ => List V → List V) (fun l => l) (fun T _ ih l => List.casesOn (motive := fun _ => List V) l [] (fun v r => zdb P T v :: ih r)) Ts vs
theorem zhw (P : Program) : ∀ (Ts : List TypeId) (vs : List V), normGF P Ts vs = zel P true Ts vs
 | [], vs => by simp only [zel]; rfl
 | T :: Ts, [] => by simp only [zel]; rfl
 | T :: Ts, v :: vs => by simp only [zel, cond_true]; rw [← zhw P Ts vs]; rfl
theorem normG_len (P : Program) : ∀ (Ts : List TypeId) (vs : List V), (zel P true Ts vs).length = vs.length
 | [], vs => by simp only [zel]
 | T :: Ts, [] => by simp only [zel]
 | T :: Ts, v :: vs => by simp only [zel, List.length_cons, normG_len P Ts vs]
noncomputable def zd5 (P : Program) (fn : Func) (args : List V) : Fr := Fr.mk (normGF P fn.params.toList args) (Nat.sub fn.ntmps (zde args)) (Nat.add (zde args) (Nat.sub fn.ntmps (zde args)))
theorem zka (P : Program) (fn : Func) (args : List V) : (zd5 P fn args).l = zfr P true fn args := by
 unfold zd5 zfr
 rw [mk_l (by rw [zhw, normG_len, zax]; rfl), zhw, zax]; rfl
noncomputable def frame0F (P : Program) (fn : Func) (args : List V) : Fr := Fr.of (frame0 P fn args)
noncomputable def resLF (P : Program) : List ResultVar → Fr → Mem → Option (List V)
 | [], _, _ => some []
 | .tmp i :: l, t, m => match resLF P l t m with
   | some vs => some ((acc i).g t :: vs)
   | none => none
 | .cell i T :: l, t, m => match znx P T ((acc i).g t) m, resLF P l t m with
   | some v, some vs => some (v :: vs)
   | _, _ => none
theorem zj2 {P : Program} : ∀ {l : List ResultVar} {t : Fr} {m : Mem} {vs : List V} {K : List V → Prop}, resLF P l t m = some vs → K vs → resL P l t.l m K
 | [], t, m, vs, K, h, hK => by cases h; exact hK
 | .tmp i :: l, t, m, vs, K, h, hK => by
   simp only [resLF] at h
   split at h
   · rename_i vs' hv
     cases h
     rw [acc_g] at hK
     exact zj2 (K := fun vs => K (zdx t.l i :: vs)) hv hK
   · cases h
 | .cell i T :: l, t, m, vs, K, h, hK => by
   simp only [resLF] at h
   split at h
   · rename_i v vs' h1 h2
     cases h
     rw [acc_g] at h1
     exact sLoadE_ok (K := fun v => resL P l t.l m fun vs => K (v :: vs)) h1 (zj2 (K := fun vs => K (v :: vs)) h2 hK)
   · cases h
noncomputable def retF (P : Program) (fn : Func) (r : Res) : Option (V × Mem) :=
 match r.1 with
 | .ext _ => none
 | _ => match resLF P fn.results.toList r.2.1 r.2.2 with
   | some vs => some (oneV (normGF P fn.resultTypes.toList vs), r.2.2)
   | none => none
theorem zo5 {P : Program} {fn : Func} {r : Res} {x : V × Mem} {K : V → Mem → Prop} (h : retF P fn r = some x) (hK : K x.1 x.2) : retG P true fn K r.1 r.2.1.l r.2.2 := by
 obtain ⟨e, t, m⟩ := r
 unfold retF at h
 unfold retG
 cases e <;> dsimp only at h ⊢
 case ext i => cases h
 all_goals
  split at h
  · rename_i vs hv
    cases h
    rw [zhw] at hK
    exact zj2 (K := fun vs => K (oneV (zel P true fn.resultTypes.toList vs)) m) hv hK
  · cases h
noncomputable def gcVF (n : Nat) (r : V × Mem) : Option (V × Mem) :=
 cond (Nat.ble (zde r.2) (Nat.succ n)) (some r) (match canonF n [r.1] r.2 with
  | some (t, m2) => some (ze9 .z t 0, m2)
  | none => none)
theorem gcVF_ok {n : Nat} {r x : V × Mem} {K : V → Mem → Prop} (h : gcVF n r = some x) (hK : K x.1 x.2 ∨ K (wkV x.1) x.2) : gcQ (some n) K r.1 r.2 := by
 unfold gcVF at h
 unfold gcQ
 dsimp only
 cases hb : Nat.ble (zde r.2) (Nat.succ n) with
 | true =>
   rw [hb] at h
   cases h
   unfold zc5
   rw [zax] at hb
   have hb' : Nat.ble r.2.length (n + 1) = true := hb
   simp only [hb', cond_true]
   exact hK
 | false =>
   rw [hb] at h
   simp only [cond_false] at h
   split at h
   · rename_i t m2 hc
     cases h
     rw [zej] at hK
     exact canonF_ok hc hK
   · cases h
def sameR (x : V × Mem) (l : Out) : Bool := l.all fun y => smV x.1 y.1 && eqM x.2 y.2
theorem sameR_ok {x : V × Mem} {l : Out} (h : sameR x l = true) : ∀ y ∈ l, y = x := fun y hy => by
 have := List.all_eq_true.1 h y hy
 simp only [Bool.and_eq_true] at this
 exact Prod.ext (smV_ok _ _ this.1).symm (eqM_ok this.2).symm
def wkR (x : V × Mem) : V × Mem := (wkV x.1, x.2)
def mergeR (l : Out) : Out :=
 match l with
 | [] => []
 | [x] => [x]
 | x :: r => cond (sameR x r) [x] (cond (sameR (wkR x) (r.map wkR)) [wkR x] (x :: r))
theorem mergeR_ok {l : Out} {K : V → Mem → Prop} (hK : ∀ x ∈ mergeR l, K x.1 x.2) : ∀ x ∈ l, K x.1 x.2 ∨ K (wkV x.1) x.2 := by
 intro x hx
 match l, hK, hx with
 | [], _, hx => cases hx
 | [y], hK, hx => exact .inl (hK x hx)
 | y :: z :: r, hK, hx =>
   simp only [mergeR] at hK
   cases h1 : sameR y (z :: r) with
   | true =>
     rw [h1] at hK
     have e : x = y := by
      rcases List.mem_cons.1 hx with h | h
      · exact h
      · exact sameR_ok h1 x h
     rw [e]
     exact .inl (hK y (by simp))
   | false =>
     rw [h1] at hK
     simp only [cond_false] at hK
     cases h2 : sameR (wkR y) ((z :: r).map wkR) with
     | true =>
       rw [h2] at hK
       have e : wkR x = wkR y := by
        rcases List.mem_cons.1 hx with h | h
        · rw [h]
        · exact sameR_ok h2 _ (List.mem_map.2 ⟨x, h, rfl⟩)
       have := hK (wkR y) (by simp)
       rw [← e] at this
       exact .inr this
     | false => rw [h2] at hK; exact .inl (hK x hx)
structure SPE (P : Program) where
 sp : SP P
 e : List Nat → zer → FuncId → List V → Mem → Option (Option Out)
 ok : ∀ {ro : List Nat} {callE : zer} {call : zb8}, zef callE call → ∀ {g : FuncId} {args : List V} {m : Mem} {rs : Out} {K : V → Mem → Prop}, e ro callE g args m = some (some rs) → (∀ r ∈ rs, K r.1 r.2) → ∃ p, sp.f ro call g args m K = some p ∧ p
 no : ∀ {ro : List Nat} {callE : zer} {call : zb8} {g : FuncId} {args : List V} {m : Mem} {K : V → Mem → Prop}, e ro callE g args m = none → sp.f ro call g args m K = none
noncomputable def callF0 (P : Program) (inl : List Nat) (self : SelfE) (ro hr : List Nat) : zer := fun g args m =>
 match P.funcs[g]? with
 | none => none
 | some fn => cond (inL inl g)
  (match fn.body with
   | none => none
   | some c => cond (fn.name == "runtime.NumGoroutine") none (match zfy (self g ro hr c (zd5 P fn args) m) fun r => match retF P fn r with
     | some x => one1 (gcVF (zde m) x)
     | none => none with
     | some l => some (mergeR l)
     | none => none))
  none
noncomputable def zjy (P : Program) (E : SPE P) (inl : List Nat) (self : SelfE) (ro hr : List Nat) : zer := fun g args m =>
 match E.e (hr ++ ro) (callF0 P inl self ro hr) g args m with
 | some r => r
 | none => callF0 P inl self ro hr g args m
def HE {P : Program} (E : SPE P) (inl : List Nat) (n : Nat) : SH P := ⟨[], [], inl, [], [], false, n, KN.no, true, E.sp⟩
def zqo (selfE : SelfE) (self : SelfT) : Prop := ∀ {fi : Nat} {ro hr : List Nat} {c : Code} {t : Fr} {m : Mem} {rs : zg7} {Q : zeq}, selfE fi ro hr c t m = some rs → (∀ r ∈ rs, Q r.1 r.2.1.l r.2.2) → self fi ro hr c Q t.l m
theorem callF0_ok {P : Program} {E : SPE P} {inl : List Nat} {n : Nat} {selfE : SelfE} {self : SelfT} (hs : zqo selfE self) {ro hr : List Nat} : zef (callF0 P inl selfE ro hr) (zgp P (HE E inl n) self ro hr) := by
 intro g args m rs K h hK
 unfold callF0 at h
 unfold zgp
 split at h
 · cases h
 · rename_i fn hf
   rw [hf]
   dsimp only
   obtain ⟨h1, h2⟩ := zaf h
   have h1' : inL (HE E inl n).inl g = true := h1
   rw [h1']
   simp only [cond_true]
   split at h2
   · cases h2
   · rename_i c hc
     obtain ⟨h3, h4⟩ := zno h2
     rw [hc]
     dsimp only
     rw [h3]
     simp only [cond_false]
     split at h4
     · rename_i l hl
       cases h4
       obtain ⟨l1, h5, h6⟩ := zbd hl
       have ef : zfr P (HE E inl n).gc fn args = (zd5 P fn args).l := (zka P fn args).symm
       rw [ef]
       refine hs h5 fun r hr => ?_
       obtain ⟨a, h7, h8⟩ := h6 r hr
       split at h7
       · rename_i x hx
         obtain ⟨y, h9, rfl⟩ := zhv h7
         rw [zax] at h9
         exact zo5 hx (gcVF_ok h9 (mergeR_ok hK y (h8 y (by simp))))
       · cases h7
     · cases h4
theorem zkd {P : Program} {E : SPE P} {inl : List Nat} {n : Nat} {selfE : SelfE} {self : SelfT} (hs : zqo selfE self) {ro hr : List Nat} : zef (zjy P E inl selfE ro hr) (zdu P (HE E inl n) self ro hr) := by
 intro g args m rs K h hK
 unfold zjy at h
 unfold zdu
 split at h
 · rename_i r hr1
   subst h
   obtain ⟨p, h1, h2⟩ := E.ok (callF0_ok (E := E) (n := n) (selfE := selfE) (self := self) hs) hr1 hK
   have h1' : (HE E inl n).sp.f (hr ++ ro) (zgp P (HE E inl n) self ro hr) g args m K = some p := h1
   rw [h1']; exact h2
 · rename_i hr1
   have h1' : (HE E inl n).sp.f (hr ++ ro) (zgp P (HE E inl n) self ro hr) g args m K = none := E.no hr1
   rw [h1']
   exact callF0_ok (E := E) (n := n) (selfE := selfE) (self := self) hs h hK
noncomputable def rndsF (n0 : Nat) (step : Fr → Mem → Option zg7) (n : Nat) (t : Fr) (m : Mem) : Option zg7 :=
 Nat.rec (motive := fun _ => Fr → Mem → Option zg7) (fun _ _ => none)
  (fun _ ih t m => zfy (step t m) fun r => match r.1 with
   | .nrm => (match zjl n0 r.2.1 r.2.2 with
     | some (t2, m2) => ih t2 m2
     | none => none)
   | _ => some [r]) n t m
theorem rndsF_ok {n0 : Nat} {stepE : Fr → Mem → Option zg7} {step : zeq → List V → Mem → Prop} (hs : ∀ {t : Fr} {m rs} {Q : zeq}, stepE t m = some rs → (∀ r ∈ rs, Q r.1 r.2.1.l r.2.2) → step Q t.l m) {Q : zeq} :
 ∀ {n : Nat} {t : Fr} {m : Mem} {rs : zg7}, rndsF n0 stepE n t m = some rs → (∀ r ∈ rs, Q r.1 r.2.1.l r.2.2) → rnds (some n0) step Q n t.l m
 | 0, t, m, rs, h, _ => by cases h
 | n + 1, t, m, rs, h, hQ => by
   have h : zfy (stepE t m) (fun r => match r.1 with
    | .nrm => (match zjl n0 r.2.1 r.2.2 with
      | some (t2, m2) => rndsF n0 stepE n t2 m2
      | none => none)
    | _ => some [r]) = some rs := h
   obtain ⟨l, h1, h2⟩ := zbd h
   unfold rnds
   refine hs h1 fun r hr => ?_
   obtain ⟨a, h3, h4⟩ := h2 r hr
   obtain ⟨e, t', m'⟩ := r
   cases e with
   | nrm =>
     dsimp only at h3
     split at h3
     · rename_i t2 m2 hc
       exact zh9 (K := rnds (some n0) step Q n) hc (rndsF_ok hs h3 fun x hx => hQ x (h4 x hx))
     · cases h3
   | ext i =>
     cases h3
     have := hQ (.ext i, t', m') (h4 _ (by simp))
     exact this
   | ret =>
     cases h3
     have := hQ (.ret, t', m') (h4 _ (by simp))
     exact this
noncomputable def setAF (t : Fr) (ps : List Tmp) (args : List V) : Fr :=
 List.rec (motive := fun _ => Fr → List V → Fr) (fun t _ => t) (fun p _ ih t l => List.casesOn (motive := fun _ => Fr) l t (fun v r => ih ((acc p).s t v) r)) ps t args
theorem setAF_l : ∀ (ps : List Tmp) (t : Fr) (args : List V), (setAF t ps args).l = setA t.l ps args
 | [], t, args => by cases args <;> rfl
 | p :: ps, t, [] => rfl
 | p :: ps, t, v :: vs => by
   show (setAF ((acc p).s t v) ps vs).l = setA (zk5 t.l p v) ps vs
   rw [setAF_l ps, acc_s]
structure CF where
 r : SelfYE → YE → List Nat → List Nat → Fr → Mem → Option zg7
def nrmR (l : zbb) : zg7 := l.map fun x => (.nrm, x.1, x.2)
noncomputable def zcx (P : Program) (E : SPE P) (inl : List Nat) (nl : Nat) : Code → CF
 | .skip => ⟨fun _ _ _ _ t m => some [(.nrm, t, m)]⟩
 | .region _ ops d => cond (ops.toList.all fun o => !zce o)
  (cond d (cond (zg2 ops.toList ops.toList.length [] && Region.noSelect ops.toList.toArray)
   ⟨fun self Y hr ro t m => match (cDraw P ops.toList ops.toList.length []).r ro hr (zjy P E inl (self Y.sub) ro) [] t m with
    | some outs => match agreeF (zde m) outs with
      | some l => some (nrmR l)
      | none => none
    | none => none⟩ ⟨fun _ _ _ _ _ _ => none⟩)
   ⟨fun self Y hr ro t m => match (cOps P ops.toList ops.toList).r (zfh hr ro) (zjy P E inl (self Y.sub) ro hr) (Y.h ro hr) t m with
    | some l => some (nrmR l)
    | none => none⟩) ⟨fun _ _ _ _ _ _ => none⟩
 | .seq x y => ⟨fun self Y hr ro t m => zfy ((zcx P E inl nl x).r self Y hr ro t m) fun r => match r.1 with
  | .nrm => (zcx P E inl nl y).r self Y hr ro r.2.1 r.2.2
  | _ => some [r]⟩
 | .cond c x y => ⟨fun self Y hr ro t m => match (zeg c).e t with
  | .u (.b b) => cond b ((zcx P E inl nl x).r self Y hr ro t m) ((zcx P E inl nl y).r self Y hr ro t m)
  | _ => none⟩
 | .block id c => ⟨fun self Y hr ro t m => zfy ((zcx P E inl nl c).r self Y hr ro t m) fun r => match r.1 with
  | .ext j => some [(cond (Nat.beq j id) .nrm (.ext j), r.2.1, r.2.2)]
  | _ => some [r]⟩
 | .loop c => ⟨fun self Y hr ro t m => rndsF (zde m) (fun t m => (zcx P E inl nl c).r self Y hr ro t m) nl t m⟩
 | .exit id => ⟨fun _ _ _ _ t m => some [(.ext id, t, m)]⟩
 | .ret => ⟨fun _ _ _ _ t m => some [(.ret, t, m)]⟩
 | .scope c => zcx P E inl nl c
 | .label _ => ⟨fun _ _ _ _ t m => some [(.nrm, t, m)]⟩
 | .rangeFunc g ps assign body => ⟨fun self Y hr ro t m => match Y with
   | .out => (match (zeg g).e t with
     | .f gi as' cs => match P.funcs[gi]? with
       | none => none
       | some fn => match fn.body with
         | none => none
         | some c => cond (fn.name == "runtime.NumGoroutine" || !noEx body) none (
           zfy (self (.it (zde m) fun ro' hr' args m1 => match ze9 .x m1 (zde m) with
            | .tk => cond (Nat.beq args.length ps.size) (zfy ((zcx P E inl nl assign).r self .rd hr' ro' (setAF t ps.toList args) (znh m1 (zde m) .x)) fun r2 => match r2.1 with
              | .nrm => zfy ((zcx P E inl nl body).r self .rd hr' ro' r2.2.1 r2.2.2) fun r3 => (match r3.1, ze9 .x r3.2.2 (zde m) with
                | .nrm, .x => some [(.u (.b true), znh r3.2.2 (zde m) .tk)]
                | _, _ => none)
              | _ => none) none
            | _ => none) gi ro hr c (zd5 P fn (zfh (zfh as' [.y (zde m)]) cs)) (zfh m [.tk])) fun r => match retF P fn r with
            | some x => (match ze9 .x x.2 (zde m) with
              | .tk => some [(.nrm, t, znh x.2 (zde m) .x)]
              | _ => none)
            | none => none)
     | _ => none)
   | _ => none⟩
 | _ => ⟨fun _ _ _ _ _ _ => none⟩
theorem c_cond (c : Bool) (f g : CF) (self : SelfYE) (Y : YE) (hr ro : List Nat) (t : Fr) (m : Mem) : (cond c f g).r self Y hr ro t m = cond c (f.r self Y hr ro t m) (g.r self Y hr ro t m) := by cases c <;> rfl
theorem cCode_ok {P : Program} {E : SPE P} {inl : List Nat} {nl : Nat} {selfE : SelfYE} {self : SelfY} (hs : ∀ {Y : YE} {Z : YC}, Y.Ok Z → zqo (selfE Y) (self Z)) {fi : Nat} :
 ∀ (c : Code) {Y : YE} {Z : YC} (hY : Y.Ok Z) {hr ro : List Nat} {t : Fr} {m : Mem} {rs : zg7} {Q : zeq}, (zcx P E inl nl c).r selfE Y hr ro t m = some rs → (∀ r ∈ rs, Q r.1 r.2.1.l r.2.2) → vcC P (HE E inl nl) self fi c Z hr ro Q t.l m := by
 have fj : ∀ a b c, findH (HE E inl nl).jo a b c = none := fun a b c => rfl
 have fl : ∀ a b c, findH (HE E inl nl).lo a b c = none := fun a b c => rfl
 intro c
 induction c with
 | skip => intro Y Z hY hr ro t m rs Q h hQ; simp only [zcx] at h; cases h; exact hQ (.nrm, t, m) (by simp)
 | exit id => intro Y Z hY hr ro t m rs Q h hQ; simp only [zcx] at h; cases h; exact hQ (.ext id, t, m) (by simp)
 | ret => intro Y Z hY hr ro t m rs Q h hQ; simp only [zcx] at h; cases h; exact hQ (.ret, t, m) (by simp)
 | label id => intro Y Z hY hr ro t m rs Q h hQ; simp only [zcx] at h; cases h; exact hQ (.nrm, t, m) (by simp)
 | scope c ih => intro Y Z hY hr ro t m rs Q h hQ; simp only [zcx] at h; simp only [vcC]; exact ih hY h hQ
 | region id ops d =>
   intro Y Z hY hr ro t m rs Q h hQ
   simp only [zcx] at h
   rw [c_cond, c_cond, c_cond] at h
   simp only [vcC]
   obtain ⟨h1, h2⟩ := zaf h
   rw [h1]
   simp only [cond_true]
   cases d with
   | true =>
     simp only [cond_true] at h2 ⊢
     obtain ⟨h3, h4⟩ := zaf h2
     rw [h3]
     simp only [cond_true]
     split at h4
     · rename_i outs ho
       split at h4
       · rename_i l ha
         cases h4
         rw [zax] at ha
         refine zgj (fun h5 => zkd (n := nl) (selfE := selfE Y.sub) (self := self Z.sub) (hs hY.sub)) ho fun x hx => ?_
         exact agreeF_ok ha (fun y hy => hQ (.nrm, y.1, y.2) (List.mem_map.2 ⟨y, hy, rfl⟩)) x hx
       · cases h4
     · cases h4
   | false =>
     simp only [cond_false] at h2 ⊢
     split at h2
     · rename_i l hl
       cases h2
       rw [za9] at hl
       exact zg3 (zkd (n := nl) (selfE := selfE Y.sub) (self := self Z.sub) (hs hY.sub)) hY.yh (K := Q .nrm) hl fun x hx => hQ (.nrm, x.1, x.2) (List.mem_map.2 ⟨x, hx, rfl⟩)
     · cases h2
 | seq x y ihx ihy =>
   intro Y Z hY hr ro t m rs Q h hQ
   simp only [zcx] at h
   simp only [vcC, fj]
   obtain ⟨l, h1, h2⟩ := zbd h
   refine ihx hY h1 fun r hr => ?_
   obtain ⟨a, h3, h4⟩ := h2 r hr
   obtain ⟨e, t', m'⟩ := r
   cases e with
   | nrm => exact ihy hY h3 fun x hx => hQ x (h4 x hx)
   | ext i =>
     cases h3
     have := hQ (.ext i, t', m') (h4 _ (by simp))
     exact this
   | ret =>
     cases h3
     have := hQ (.ret, t', m') (h4 _ (by simp))
     exact this
 | cond c x y ihx ihy =>
   intro Y Z hY hr ro t m rs Q h hQ
   simp only [zcx] at h
   simp only [vcC]
   rw [zbk] at h
   split at h
   · rename_i b hc
     rw [hc]
     dsimp only
     cases b
     · exact ihy hY h hQ
     · exact ihx hY h hQ
   · cases h
 | block id c ih =>
   intro Y Z hY hr ro t m rs Q h hQ
   simp only [zcx] at h
   simp only [vcC]
   obtain ⟨l, h1, h2⟩ := zbd h
   refine ih hY h1 fun r hr => ?_
   obtain ⟨a, h3, h4⟩ := h2 r hr
   obtain ⟨e, t', m'⟩ := r
   cases e with
   | nrm =>
     cases h3
     have := hQ (.nrm, t', m') (h4 _ (by simp))
     exact this
   | ext j =>
     cases h3
     have := hQ (cond (Nat.beq j id) .nrm (.ext j), t', m') (h4 _ (by simp))
     simp only [blockS]
     dsimp only at this
     cases hb : Nat.beq j id with
     | true => rw [hb] at this; exact this
     | false => rw [hb] at this; exact this
   | ret =>
     cases h3
     have := hQ (.ret, t', m') (h4 _ (by simp))
     exact this
 | loop c ih =>
   intro Y Z hY hr ro t m rs Q h hQ
   simp only [zcx] at h
   simp only [vcC, fl]
   rw [zax] at h
   exact rndsF_ok (step := fun Q => vcC P (HE E inl nl) self fi c Z hr ro Q) (fun h1 h2 => ih hY h1 h2) h hQ
 | rangeFunc g ps assign body iha ihb =>
   intro Y Z hY hr ro t m rs Q h hQ
   cases Y with
   | rd => simp [zcx] at h
   | it b f => simp [zcx] at h
   | out =>
     cases Z with
     | rd => exact hY.elim
     | it b f => exact hY.elim
     | out =>
       simp only [zcx, zbk, zax, za9, zc0, zgu] at h
       simp only [vcC]
       split at h
       · rename_i gi as' cs hg
         rw [hg]
         dsimp only
         split at h
         · cases h
         · rename_i fn hf
           rw [hf]
           dsimp only
           split at h
           · cases h
           · rename_i c hc
             rw [hc]
             dsimp only
             obtain ⟨h1, h2⟩ := zno h
             rw [h1]
             simp only [cond_false]
             obtain ⟨l, hl, h3⟩ := zbd h2
             rw [show zfr P (HE E inl nl).gc fn (as' ++ [V.y m.length] ++ cs) = (zd5 P fn (as' ++ [V.y m.length] ++ cs)).l from (zka P fn _).symm]
             refine hs ?_ (Q := retG P true fn fun _ m' => isY (mg m' m.length) (Q .nrm t.l (ms m' m.length .x))) hl fun r1 hr1 => ?_
             · refine ⟨rfl, fun {ro' hr' args m1 r2 K} h3 hK => ?_⟩
               dsimp only at h3 ⊢
               split at h3
               · rename_i htk1
                 obtain ⟨h4, h5⟩ := zaf h3
                 rw [htk1]
                 simp only [isY, h4, cond_true]
                 obtain ⟨l2, hl2, h6⟩ := zbd h5
                 rw [← ms_set] at hl2
                 rw [← setAF_l]
                 refine iha (Y := .rd) (Z := .rd) trivial hl2 fun q hq => ?_
                 obtain ⟨a, h7, h8⟩ := h6 q hq
                 obtain ⟨e2, t2, m2⟩ := q
                 cases e2 with
                 | nrm =>
                   dsimp only at h7
                   obtain ⟨l3, hl3, h9⟩ := zbd h7
                   refine ihb (Y := .rd) (Z := .rd) trivial hl3 fun q3 hq3 => ?_
                   obtain ⟨a3, h10, h11⟩ := h9 q3 hq3
                   obtain ⟨e3, t3, m3⟩ := q3
                   cases e3 with
                   | nrm =>
                     dsimp only at h10
                     dsimp only
                     split at h10
                     · rename_i hx1 hx
                       cases h10
                       rw [hx]
                       have := hK (.u (.b true), m3.set m.length .tk) (h8 _ (h11 _ (by simp)))
                       rw [ms_set]; exact this
                     · cases h10
                   | ext i => cases h10
                   | ret => cases h10
                 | ext i => cases h7
                 | ret => cases h7
               · cases h3
             · obtain ⟨a, h4, h5⟩ := h3 r1 hr1
               split at h4
               · rename_i x hx
                 refine zo5 hx ?_
                 split at h4
                 · rename_i htk
                   cases h4
                   rw [htk]
                   have := hQ (.nrm, t, x.2.set m.length .x) (h5 _ (by simp))
                   dsimp only [isY]
                   rw [ms_set]; exact this
                 · cases h4
               · cases h4
       · cases h
 | _ => intro Y Z hY hr ro t m rs Q h hQ; simp [zcx] at h
noncomputable def runF (P : Program) (E : SPE P) (inl : List Nat) (nl : Nat) (n : Nat) : SelfYE :=
 Nat.rec (motive := fun _ => SelfYE) (fun _ _ _ _ _ _ _ => none) (fun _ ih Y _ ro hr c t m => (zcx P E inl nl c).r ih Y hr ro t m) n
theorem zlh {P : Program} {E : SPE P} {inl : List Nat} {nl : Nat} : ∀ (n : Nat) {Y : YE} {Z : YC}, Y.Ok Z → zqo (runF P E inl nl n Y) (zg9 P (HE E inl nl) n Z)
 | 0, _, _, _ => fun h _ => by cases h
 | n + 1, _, _, hY => fun h hQ => cCode_ok (self := zg9 P (HE E inl nl) n) (zlh n) _ hY h hQ
def endTE (x : V) (m : Mem) (ix : List Nat) : Option (V × Mem) :=
 cond (ze8 ix (zae x) && ze8 ix (ix.flatMap fun b => zci (mg m b)) && zia m.length ix) (some (zch (fun b => zjd ix b 0) x, znv m ix)) none
def endE (own : Bool) (n : Nat) (r : V × Mem) : Option (V × Mem) :=
 match frzX own r.2 r.1 with
 | none => none
 | some (x1, m1) => endTE x1 m1 (clo m1 1000 (zae x1 ++ (m1.take n).flatMap zci) (List.range n))
theorem endE_ok {own : Bool} {n : Nat} {r x : V × Mem} {Q : V → Mem → Prop} (h : endE own n r = some x) (hQ : Q x.1 x.2) : endS own n Q r.1 r.2 := by
 unfold endE at h
 unfold endS
 split at h
 · cases h
 · rename_i x1 m1 hf
   rw [hf]
   dsimp only
   unfold endTE at h
   unfold endT
   obtain ⟨h1, h2⟩ := zaf h
   cases h2
   rw [h1]; exact hQ
noncomputable def resX0 (P : Program) (fn : Func) (r : Res) : Option (V × Mem) :=
 match r.1 with
 | .ext _ => none
 | _ => match resLF P fn.results.toList r.2.1 r.2.2 with
   | some vs => some (oneV (zni P fn.resultTypes.toList vs), r.2.2)
   | none => none
theorem normL_G (P : Program) : ∀ (Ts : List TypeId) (vs : List V), zni P Ts vs = zel P false Ts vs
 | [], vs => by simp only [zni, zel]
 | T :: Ts, [] => by simp only [zni, zel]
 | T :: Ts, v :: vs => by simp only [zni, zel, cond_false]; rw [normL_G P Ts vs]
theorem resX0_ok {P : Program} {fn : Func} {r : Res} {x : V × Mem} {K : V → Mem → Prop} (h : resX0 P fn r = some x) (hK : K x.1 x.2) : retS P fn K r.1 r.2.1.l r.2.2 := by
 obtain ⟨e, t, m⟩ := r
 unfold resX0 at h
 unfold retS retG
 cases e <;> dsimp only at h ⊢
 case ext i => cases h
 all_goals
  split at h
  · rename_i vs hv
    cases h
    rw [normL_G] at hK
    exact zj2 (K := fun vs => K (oneV (zel P false fn.resultTypes.toList vs)) m) hv hK
  · cases h
noncomputable def funF (P : Program) (E : SPE P) (inl : List Nat) (nl n : Nat) (f : FuncId) (fn : Func) (m : Mem) (args : List V) : Option Out :=
 match fn.body with
 | none => none
 | some c => zfy (runF P E inl nl n .out f [] [] c (frame0F P fn args) m) fun r => match resX0 P fn r with
   | some x => one1 (endE false m.length x)
   | none => none
theorem frame0F_l (P : Program) (fn : Func) (args : List V) : (frame0F P fn args).l = frame0 P fn args := of_l _
theorem funF_ok {P : Program} {E : SPE P} {inl : List Nat} {nl n : Nat} {f : FuncId} {fn : Func} {m : Mem} {args : List V} {rs : Out} {Q : V → Mem → Prop} (h : funF P E inl nl n f fn m args = some rs) (hQ : ∀ r ∈ rs, Q r.1 r.2) : zqv P (HE E inl nl) n f fn m args Q := by
 unfold funF at h
 unfold zqv
 split at h
 · cases h
 · rename_i c hc
   rw [hc]
   dsimp only
   obtain ⟨l, h1, h2⟩ := zbd h
   rw [← frame0F_l]
   refine zlh n (Y := .out) (Z := .out) trivial (Q := retS P fn (endS false m.length Q)) h1 fun r hr => ?_
   obtain ⟨a, h3, h4⟩ := h2 r hr
   split at h3
   · rename_i x hx
     obtain ⟨y, h5, rfl⟩ := zhv h3
     exact resX0_ok hx (endE_ok h5 (hQ y (h4 y (by simp))))
   · cases h3
theorem evalF {P : Program} (hmix : P.follows .mixedOrders = true) (E : SPE P) {inl : List Nat} {nl n : Nat} {f : FuncId} {fn : Func} (hf : P.funcs[f]? = some fn) (hn : (fn.name == "runtime.NumGoroutine") = false) {m : Mem} {args : List V} {r : V × Mem} (h : funF P E inl nl n f fn m args = some [r]) : PRun P f m args fun x m' => x = r.1 ∧ m' = r.2 :=
 funS hmix hf hn (funF_ok h fun x hx => by rw [List.mem_singleton.1 hx]; exact ⟨rfl, rfl⟩)
section
variable {P : Program} {E : SPE P} {inl : List Nat} {nl n : Nat}
noncomputable abbrev CodeE (P : Program) (E : SPE P) (inl : List Nat) (nl n : Nat) (c : Code) (t : Fr) (m : Mem) : Option zg7 := (zcx P E inl nl c).r (runF P E inl nl n) .out [] [] t m
noncomputable def evK (P : Program) (E : SPE P) (inl : List Nat) (nl n : Nat) : Nat → Code → Fr → Mem → Option (Fr × Mem)
 | 0, _, t, m => some (t, m)
 | k + 1, .seq x y, t, m => match CodeE P E inl nl n x t m with
   | some [(.nrm, t1, m1)] => evK P E inl nl n k y t1 m1
   | _ => none
 | _ + 1, _, _, _ => none
def zjv : Nat → Code → Code
 | 0, c => c
 | k + 1, .seq _ y => zjv k y
 | _ + 1, c => c
def zbr (fn : Func) : Code := match fn.body with
 | some c => c
 | none => .skip
end
structure Suf {α : Type} (L : List α) (x : Int) (l : List α) : Prop where
 k : ∃ k : Nat, x = k ∧ L.drop k = l
 b : L.length ≤ 1000000000000
section
variable {α β : Type} {L l : List α} {a : α} {x : Int} {e : α → β}
theorem Suf.zero (h : L.length ≤ 1000000000000) : Suf L 0 L := ⟨⟨0, rfl, rfl⟩, h⟩
theorem Suf.lt (s : Suf L x (a :: l)) : 0 ≤ x ∧ x < L.length := by
 obtain ⟨⟨k, rfl, hk⟩, -⟩ := s
 have : k < L.length := by
  apply Decidable.byContradiction
  intro hc
  rw [List.drop_eq_nil_of_le (by omega)] at hk
  cases hk
 omega
theorem Suf.nlt (s : Suf L x []) : ¬ x < L.length := by
 obtain ⟨⟨k, rfl, hk⟩, -⟩ := s
 have := List.drop_eq_nil_iff.1 hk
 omega
theorem Suf.wr (s : Suf L x (a :: l)) : IntKind.wrap .i64 (x + 1) = x + 1 := by
 have := s.lt
 have := s.b
 exact w64 (by omega) (by omega)
theorem Suf.succ (s : Suf L x (a :: l)) : Suf L (x + 1) l := by
 obtain ⟨⟨k, rfl, hk⟩, hb⟩ := s
 refine ⟨⟨k + 1, rfl, ?_⟩, hb⟩
 rw [show k + 1 = k + 1 from rfl, ← List.drop_drop, hk]
 rfl
theorem Suf.get (s : Suf L x (a :: l)) : L[x.toNat]? = some a := by
 obtain ⟨⟨k, rfl, hk⟩, -⟩ := s
 have := congrArg List.head? hk
 simpa [List.head?_drop] using this
theorem Suf.d1 (s : Suf L x (a :: l)) : decide (x < ((L.map e).length : Int)) = true := by
 rw [List.length_map]; exact decide_eq_true s.lt.2
theorem Suf.d0 (s : Suf L x []) : decide (x < ((L.map e).length : Int)) = false := by
 rw [List.length_map]; exact decide_eq_false s.nlt
theorem zbf {γ : Type} {R : List γ} {r : γ} {K : γ → Prop} (h0 : 0 ≤ x) (h : R[x.toNat]? = some r) : elL R x K = K r := by
 obtain ⟨k, rfl⟩ := Int.eq_ofNat_of_zero_le h0
 simp only [Int.toNat_natCast] at h
 show (match R[k]? with | some r => K r | none => False) = K r
 rw [h]
theorem Suf.el (s : Suf L x (a :: l)) {K : β → Prop} : elL (L.map e) x K = K (e a) :=
 zbf s.lt.1 (by rw [List.getElem?_map, s.get]; rfl)
def SufI (L : List α) (P : List α → Prop) (x : Int) : Prop := ∃ l, Suf L x l ∧ P l
def zfa (L : List α) (x : Int) : Nat := (L.length - x).toNat
variable {P : List α → Prop}
theorem SufI.zero (h : L.length ≤ 1000000000000) (h0 : P L) : SufI L P 0 := ⟨L, .zero h, h0⟩
theorem Suf.me (s : Suf L x (a :: l)) : zfa L (x + 1) < zfa L x := by
 have := s.lt
 unfold zfa
 omega
theorem Suf.step (s : Suf L x (a :: l)) (h : P l) : SufI L P (IntKind.wrap .i64 (x + 1)) ∧ zfa L (IntKind.wrap .i64 (x + 1)) < zfa L x := by
 rw [s.wr]
 exact ⟨⟨l, s.succ, h⟩, s.me⟩
end
structure At {α : Type} (L : List α) (x : Int) (t l : List α) : Prop where
 e : L = t ++ l
 k : x = t.length
 b : L.length ≤ 1000000000000
section
variable {α β : Type} {L l t : List α} {a : α} {x : Int} {e : α → β}
theorem At.suf (s : At L x t l) : Suf L x l := ⟨⟨t.length, s.k, by rw [s.e, List.drop_left]⟩, s.b⟩
theorem At.zero (h : L.length ≤ 1000000000000) : At L 0 [] L := ⟨rfl, rfl, h⟩
theorem At.succ (s : At L x t (a :: l)) : At L (x + 1) (t ++ [a]) l := ⟨by rw [s.e]; simp, by rw [s.k]; simp, s.b⟩
theorem At.d1 (s : At L x t (a :: l)) : decide (x < ((L.map e).length : Int)) = true := s.suf.d1
theorem At.d0 (s : At L x t []) : decide (x < ((L.map e).length : Int)) = false := s.suf.d0
theorem At.el (s : At L x t (a :: l)) {K : β → Prop} : elL (L.map e) x K = K (e a) := s.suf.el
theorem At.all (s : At L x t []) : t = L := by rw [s.e]; simp
def AtI (L : List α) (P : List α → List α → Prop) (x : Int) : Prop := ∃ t l, At L x t l ∧ P t l
theorem AtI.zero {P : List α → List α → Prop} (h : L.length ≤ 1000000000000) (h0 : P [] L) : AtI L P 0 := ⟨[], L, .zero h, h0⟩
theorem At.step {P : List α → List α → Prop} (s : At L x t (a :: l)) (h : P (t ++ [a]) l) : AtI L P (IntKind.wrap .i64 (x + 1)) ∧ zfa L (IntKind.wrap .i64 (x + 1)) < zfa L x := by
 rw [s.suf.wr]
 exact ⟨⟨_, l, s.succ, h⟩, s.suf.me⟩
end
section
variable {r : List U} {u : U} {K : Int → Prop} {n : Int} {s j : Nat}
theorem ug0 : ug (u :: r) 0 = some u := rfl
theorem ugs : ug (u :: r) (j + 1) = ug r j := rfl
theorem ze6 : dI .i64 (some (.n n)) K = K n := rfl
theorem dL_l {c : List (List U)} {K : List (List U) → Prop} : dL s (some (.l s c)) K = K c := by
 show cond (Nat.beq s s) (K c) False = K c
 rw [show Nat.beq s s = true from Nat.beq_refl s]; rfl
theorem oP_s {α : Type} {c : α} {K : α → Prop} : oP (some c) K = K c := rfl
end
theorem idxK_of {i : Int} {n : Nat} {K : Nat → Prop} (j : Nat) (hj : i = j) (h : j < n) (k : K j) : idxK i n K := by
 subst hj
 show cond (Nat.ble (j + 1) n) (K j) False
 rw [Nat.ble_eq_true_of_le h]; exact k
section
variable {m : Mem} {n n' : Int} {b : Bool} {s z z' E : Nat} {r r' : List (List U)} {x : ByteArray} {p : Option (List U)}
theorem zcj {F : Int → Prop} : post [.I] [] F (.i n) m = F n := rfl
theorem zau {F : Bool → Prop} : post [.B] [] F (.u (.b b)) m = F b := rfl
theorem post_L {F : List (List U) → Prop} : post [.L z] [] F (.l z r) m = F r := by
 simp only [post, resX, pkR, pkV, pk1, Nat.beq_refl, cond_true]; rfl
theorem zlp {F : List (List U) → Int → Prop} : post [.L z, .I] [] F (.t [.l z r, .i n]) m = F r n := by
 simp only [post, resX, pkR, pkV, pk1, Nat.beq_refl, cond_true]; rfl
theorem post_PLI {F : Option (List U) → List (List U) → Int → Prop} : post [.one .p, .L z, .I] [] F (.t [.u (.p p), .l z r, .i n]) m = F p r n := by
 simp only [post, resX, pkR, pkV, pk1, Nat.beq_refl, cond_true]; rfl
theorem post_Brow {F : Bool → List (List U) → Prop} : post [.B] [.row E z] F (.u (.b b)) [.w E z r] = F b r := by
 simp only [post, resX, pkR, pkV, pk1, show List.range [BP.row E z].length = [0] from rfl, pkB, pkB1, mg, Nat.beq_refl, cond_true, Bool.and_self]; rfl
end
theorem PRun.mono {P : Program} {g : FuncId} {m : Mem} {args : List V} {Q Q' : V → Mem → Prop} (h : PRun P g m args Q) (k : ∀ x m', Q x m' → Q' x m') : PRun P g m args Q' :=
 fun D ρ chs C hp vs M F => (h D ρ chs C hp vs M F).mono fun _ _ ⟨D', ρ', chs', x, m', a, b, c, d⟩ => ⟨D', ρ', chs', x, m', a, b, c, k _ _ d⟩
section
variable {P : Program} {D D' : Fz} {ρ : List Loc} {m : Mem} {chs C : List zac} {h : zab}
theorem RpC.data {D2 : Fz} {j : Nat} {L : Loc} {u : U} (hL : ρ[j]? = some L) (hr : Rd D2 (.slice L.a L.n L.c) u) (le : Le D D2) : ∀ {arr : List Value} {l : List V} {i : Nat}, RpC D ρ arr l → zdx l i = .w j → RpC D2 ρ arr (zk5 l i (.u u))
 | _, [], i, h, hi => by simp [zdx] at hi
 | _, x :: xs, 0, h, hi => by
   simp only [zdx] at hi
   subst hi
   cases h with
   | cons a _ b =>
     cases a with
     | w hL' =>
       rw [hL] at hL'
       cases hL'
       have := b.mono le (s := [])
       rw [List.append_nil] at this
       exact .cons (.u hr) (fun _ _ _ e => by cases e) this
 | _, x :: xs, i + 1, h, hi => by
   simp only [zdx] at hi
   cases h with
   | cons a c b =>
     have := a.mono le (s := [])
     rw [List.append_nil] at this
     exact .cons this c (b.data hL hr le hi)
   | n e b => exact .n e (b.data hL hr le hi)
def frzAt (m : Mem) (b i : Nat) : Mem :=
 match mg m b with
 | .c l => match zdx l i with
   | .w j => match mg m j with
     | .w _ sz rows => ms (ms m j .x) b (.c (zk5 l i (.u (.l sz rows))))
     | _ => m
   | _ => m
 | _ => m
theorem SAt.frzAt (M : SAt D ρ m chs C h) (b i : Nat) : ∃ D' chs', Le D D' ∧ SAt D' ρ (frzAt m b i) chs' C h := by
 have self : ∃ D' chs', Le D D' ∧ SAt D' ρ m chs' C h := ⟨D, chs, .refl D, M⟩
 unfold YtobdpeelaadkbaaGreat.frzAt
 split
 · rename_i l hb
   split
   · rename_i j hj
     split
     · rename_i E sz rows hr
       obtain ⟨L, ch, g1, g2, g3⟩ := M.get (b := j) (by rw [hr]; simp)
       rw [hr] at g3
       cases g3 with
       | w o hn =>
         obtain ⟨D2, le, S2, hR⟩ := o.freeze (M.front g2)
         rw [← hn] at hR
         have M2 : SAt D2 ρ (ms m j .x) (chs.set j []) C h := M.put g1 g2 S2.nil le .x
         have hne : b ≠ j := fun e => by rw [e, hr] at hb; cases hb
         obtain ⟨Lb, cb, k1, k2, k3⟩ := M2.get (b := b) (by rw [zbv (Ne.symm hne), hb]; simp)
         rw [zbv (Ne.symm hne), hb] at k3
         obtain ⟨Lb', cb', q1, q2, q3⟩ := M.get (b := b) (by rw [hb]; simp)
         rw [hb] at q3
         rw [k1] at q1
         cases q1
         cases k3 with
         | c hc =>
           have h3 : RpC D2 ρ _ (zk5 l i (.u (.l sz rows))) := hc.data (D2 := D2) g1 hR (.refl D2) hj
           have S3 : St D2 (_ :: (chs.set j [] ++ C).eraseIdx b) h := M2.front k2
           exact ⟨D2, _, le, M2.put k1 k2 S3 (.refl D2) (.c h3)⟩
     · exact self
   · exact self
 · exact self
theorem PRun.frz {g : FuncId} {args : List V} {Q : V → Mem → Prop} {m0 : Mem} (b i : Nat) (hh : PRun P g m0 args fun x m => Q x (frzAt m b i)) : PRun P g m0 args Q := by
 intro D ρ chs C h vs M F
 refine (hh D ρ chs C h vs M F).mono ?_
 rintro v h' ⟨D', s, chs', x, m', le, M', hv, hq⟩
 obtain ⟨D2, chs2, le2, M2⟩ := M'.frzAt b i
 have := hv.mono le2 (s := [])
 rw [List.append_nil] at this
 exact ⟨D2, s, chs2, x, _, le.trans le2, M2, this, hq⟩
def noRef (n : Nat) (x : V) (m : Mem) : Bool := (zae x).all (fun b => Nat.ble (b + 1) n) && m.all fun a => (zci a).all fun b => Nat.ble (b + 1) n
theorem renA_id (a : AB) : renA id a = a := by
 cases a <;> simp only [renA, zd9]
theorem SAt.trim {ρ' : List Loc} {m1 : Mem} {chs' : List zac} {L : Loc} {v : Value} {x : V} (M : SAt D (ρ' ++ [L]) (m1 ++ [.x]) chs' C h) (hv : Rp D (ρ' ++ [L]) v x) (hr : noRef m1.length x m1 = true) : ∃ c1, SAt D ρ' m1 c1 C h ∧ Rp D ρ' v x := by
 unfold noRef at hr
 simp only [Bool.and_eq_true, List.all_eq_true] at hr
 have hl : ρ'.length = m1.length := by have := M.len; simp at this; exact this
 have hc : chs'.length = m1.length + 1 := by have := M.lch; simpa using this
 have sub : ∀ {l : List Nat}, (∀ b ∈ l, Nat.ble (b + 1) m1.length = true) → ∀ b ∈ l, ∀ K : Loc, (ρ' ++ [L])[b]? = some K → ρ'[id b]? = some K := fun hb b hm K hK => by
  have := Nat.le_of_ble_eq_true (hb b hm)
  rwa [List.getElem?_append_left (by omega)] at hK
 obtain ⟨c1, c, rfl⟩ : ∃ c1 c, chs' = c1 ++ [c] := ⟨chs'.dropLast, chs'.getLast (by intro e; rw [e] at hc; simp at hc), (List.dropLast_concat_getLast _).symm⟩
 have hc1 : c1.length = m1.length := by simpa using hc
 have hlast : c = [] := by
  have := M.ent m1.length L .x c (by rw [List.getElem?_append_right (by omega), hl]; simp) (by simp) (by rw [List.getElem?_append_right (by omega), hc1]; simp)
  cases this
  rfl
 subst hlast
 refine ⟨c1, ⟨hl, hc1, fun i K ab ch h1 h2 h3 => ?_, M.st.perm (by simp)⟩, ?_⟩
 · have hi : i < m1.length := (List.getElem?_eq_some_iff.1 h2).1
   have he := M.ent i K ab ch (by rw [List.getElem?_append_left (by omega)]; exact h1) (by rw [List.getElem?_append_left hi]; exact h2) (by rw [List.getElem?_append_left (by omega)]; exact h3)
   have := he.ren (ρ' := ρ') (f := id) (sub (hr.2 ab (List.mem_of_getElem? h2)))
   rwa [renA_id] at this
 · have := (ren_all (D := D) (ρ := ρ' ++ [L]) (ρ' := ρ') (f := id)).1 hv (sub hr.1)
   rwa [renV_id] at this
def trimL (n : Nat) (x : V) (m : Mem) : Mem := cond (Nat.ble (n + 1) m.length && (match m.getLast? with | some .x => true | _ => false) && noRef m.dropLast.length x m.dropLast) m.dropLast m
theorem PRun.trim {g : FuncId} {args : List V} {Q : V → Mem → Prop} {m0 : Mem} (hh : PRun P g m0 args fun x m => Q x (trimL m0.length x m)) : PRun P g m0 args Q := by
 intro D ρ chs C h vs M F
 refine (hh D ρ chs C h vs M F).mono ?_
 rintro v h' ⟨D', s, chs', x, m', le, M', hv, hq⟩
 unfold trimL at hq
 cases hc : (Nat.ble (m0.length + 1) m'.length && (match m'.getLast? with | some .x => true | _ => false) && noRef m'.dropLast.length x m'.dropLast) with
 | false => rw [hc] at hq; exact ⟨D', s, chs', x, m', le, M', hv, hq⟩
 | true =>
   rw [hc] at hq
   simp only [Bool.and_eq_true] at hc
   obtain ⟨⟨h1, h2⟩, h3⟩ := hc
   have h1 := Nat.le_of_ble_eq_true h1
   have hne : m' ≠ [] := fun e => by rw [e] at h1; simp at h1
   have hl : m'.getLast? = some .x := by
    split at h2
    · assumption
    · cases h2
   have hm : m' = m'.dropLast ++ [.x] := by
    have := List.dropLast_concat_getLast hne
    rw [List.getLast?_eq_some_getLast hne] at hl
    cases hl2 : m'.getLast hne <;> rw [hl2] at hl <;> cases hl
    rw [hl2] at this
    exact this.symm
   have hlen := M'.len
   have hρ := M.len
   have hs : s ≠ [] := fun e => by rw [e, List.append_nil] at hlen; omega
   have hs2 : ρ ++ s = (ρ ++ s.dropLast) ++ [s.getLast hs] := by rw [List.append_assoc, List.dropLast_concat_getLast]
   rw [hm, hs2] at M'
   rw [hs2] at hv
   obtain ⟨c1, M2, hv2⟩ := M'.trim hv h3
   exact ⟨D', s.dropLast, c1, x, _, le, M2, hv2, hq⟩
end
structure K4 where
 a : Int
 b : Int
 c : Int
 d : Int
deriving DecidableEq
def K4.lt (x y : K4) : Prop := x.a < y.a ∨ (x.a = y.a ∧ (x.b < y.b ∨ (x.b = y.b ∧ (x.c < y.c ∨ (x.c = y.c ∧ x.d < y.d)))))
instance (x y : K4) : Decidable (x.lt y) := by unfold K4.lt; infer_instance
theorem K4.ext' {x y : K4} (h1 : x.a = y.a) (h2 : x.b = y.b) (h3 : x.c = y.c) (h4 : x.d = y.d) : x = y := by
 cases x; cases y; simp_all
theorem K4.irr (x : K4) : ¬ x.lt x := by unfold K4.lt; omega
theorem K4.lt.trans {x y z : K4} (h : x.lt y) (k : y.lt z) : x.lt z := by unfold K4.lt at *; omega
theorem K4.tri (x y : K4) : x.lt y ∨ x = y ∨ y.lt x := by
 by_cases h : x = y
 · exact .inr (.inl h)
 · have : ¬ (x.a = y.a ∧ x.b = y.b ∧ x.c = y.c ∧ x.d = y.d) := fun ⟨h1, h2, h3, h4⟩ => h (K4.ext' h1 h2 h3 h4)
   unfold K4.lt
   omega
theorem K4.asym {x y : K4} (h : x.lt y) : ¬ y.lt x := fun k => K4.irr x (h.trans k)
abbrev Tb := List (K4 × Int)
def Srt (l : Tb) : Prop := l.Pairwise fun x y => x.1.lt y.1
def zdy (k : K4) : Tb → Nat
 | [] => 0
 | r :: l => if r.1.lt k then zdy k l + 1 else 0
def zhh (k : K4) : Tb → Option Int
 | [] => none
 | r :: l => if r.1 = k then some r.2 else zhh k l
def tval (k : K4) (l : Tb) : Int := (zhh k l).getD 0
def tput (k : K4) (v : Int) : Tb → Tb
 | [] => [(k, v)]
 | r :: l => if r.1.lt k then r :: tput k v l else if r.1 = k then (k, v) :: l else (k, v) :: r :: l
theorem Srt.tail {r : K4 × Int} {l : Tb} (h : Srt (r :: l)) : Srt l := (List.pairwise_cons.1 h).2
theorem Srt.head {r : K4 × Int} {l : Tb} (h : Srt (r :: l)) : ∀ s ∈ l, r.1.lt s.1 := (List.pairwise_cons.1 h).1
theorem tpos_le (k : K4) : ∀ l : Tb, zdy k l ≤ l.length
 | [] => Nat.le_refl _
 | r :: l => by
   simp only [zdy]
   split
   · have := tpos_le k l; simp only [List.length_cons]; omega
   · simp
theorem tpos_lt {k : K4} : ∀ {l : Tb} {i : Nat} {r : K4 × Int}, i < zdy k l → l[i]? = some r → r.1.lt k
 | [], i, r, h, hr => by simp at hr
 | s :: l, i, r, h, hr => by
   simp only [zdy] at h
   split at h
   · rename_i hs
     cases i with
     | zero => simp at hr; subst hr; exact hs
     | succ i => exact tpos_lt (l := l) (i := i) (by omega) (by simpa using hr)
   · omega
theorem tpos_ge {k : K4} : ∀ {l : Tb} {i : Nat} {r : K4 × Int}, Srt l → zdy k l ≤ i → l[i]? = some r → ¬ r.1.lt k
 | [], i, r, _, h, hr => by simp at hr
 | s :: l, i, r, hs, h, hr => by
   simp only [zdy] at h
   split at h
   · cases i with
     | zero => omega
     | succ i => exact tpos_ge (l := l) (i := i) hs.tail (by omega) (by simpa using hr)
   · rename_i hk
     cases i with
     | zero => simp at hr; subst hr; exact hk
     | succ i =>
       have hm : r ∈ l := List.mem_of_getElem? (by simpa using hr : l[i]? = some r)
       exact fun h2 => hk ((hs.head r hm).trans h2)
theorem tpos_eq {k : K4} {l : Tb} {n : Nat} (hs : Srt l) (hn : n ≤ l.length) (h1 : ∀ (i : Nat) (r : K4 × Int), i < n → l[i]? = some r → r.1.lt k) (h2 : ∀ (i : Nat) (r : K4 × Int), n ≤ i → l[i]? = some r → ¬ r.1.lt k) : n = zdy k l := by
 have hle := tpos_le k l
 rcases Nat.lt_trichotomy n (zdy k l) with h | h | h
 · have hlt : n < l.length := by omega
   exact absurd (tpos_lt h (List.getElem?_eq_getElem hlt)) (h2 n _ (Nat.le_refl _) (List.getElem?_eq_getElem hlt))
 · exact h
 · have hlt : zdy k l < l.length := by omega
   exact absurd (h1 _ _ h (List.getElem?_eq_getElem hlt)) (tpos_ge hs (Nat.le_refl _) (List.getElem?_eq_getElem hlt))
theorem zlb {k : K4} : ∀ {l : Tb}, (∀ r ∈ l, k.lt r.1) → zhh k l = none
 | [], _ => rfl
 | r :: l, h => by
   simp only [zhh]
   rw [if_neg fun e => K4.irr k (by have := h r List.mem_cons_self; rwa [e] at this), zlb fun s hs => h s (List.mem_cons_of_mem _ hs)]
theorem tget_at {k : K4} : ∀ {l : Tb}, Srt l → zhh k l = (match l[zdy k l]? with
 | some r => if r.1 = k then some r.2 else none
 | none => none)
 | [], _ => rfl
 | r :: l, hs => by
   simp only [zhh, zdy]
   by_cases h : r.1.lt k
   · rw [if_pos h, if_neg fun e => K4.irr k (by rwa [e] at h), List.getElem?_cons_succ]
     exact tget_at hs.tail
   · rw [if_neg h, List.getElem?_cons_zero]
     dsimp only
     by_cases e : r.1 = k
     · rw [if_pos e, if_pos e]
     · rw [if_neg e, if_neg e]
       rcases K4.tri r.1 k with h1 | h1 | h1
       · exact absurd h1 h
       · exact absurd h1 e
       · exact zlb fun s hs' => h1.trans (hs.head s hs')
theorem tput_at {k : K4} {v : Int} : ∀ {l : Tb}, Srt l → tput k v l = l.take (zdy k l) ++ (k, v) :: l.drop (zdy k l + bif (zhh k l).isSome then 1 else 0)
 | [], _ => rfl
 | r :: l, hs => by
   simp only [tput, zdy, zhh]
   by_cases h : r.1.lt k
   · rw [if_pos h, if_pos h, if_neg fun e => K4.irr k (by rwa [e] at h), List.take_succ_cons, tput_at hs.tail]
     simp only [List.cons_append]
     rw [Nat.add_right_comm, List.drop_succ_cons]
   · rw [if_neg h, if_neg h]
     by_cases e : r.1 = k
     · rw [if_pos e, if_pos e]; simp
     · rw [if_neg e, if_neg e]
       have : zhh k l = none := by
        rcases K4.tri r.1 k with h1 | h1 | h1
        · exact absurd h1 h
        · exact absurd h1 e
        · exact zlb fun s hs' => h1.trans (hs.head s hs')
       rw [this]; simp
theorem tget_self {k : K4} {l : Tb} (h : ∀ r ∈ l, r.1 ≠ k) : zhh k l = none := by
 induction l with
 | nil => rfl
 | cons r l ih =>
   simp only [zhh]
   rw [if_neg (h r List.mem_cons_self)]
   exact ih fun s hs => h s (List.mem_cons_of_mem _ hs)
theorem zla {k : K4} {v : Int} : ∀ {l : Tb}, Srt l → (k, v) ∈ l → zhh k l = some v
 | [], _, h => by cases h
 | r :: l, hs, h => by
   simp only [zhh]
   rcases List.mem_cons.1 h with e | e
   · subst e; rw [if_pos rfl]
   · rw [if_neg fun e2 => K4.irr k (by have := hs.head _ e; rwa [e2] at this)]
     exact zla hs.tail e
section
variable {P : Program} {D D' : Fz} {ρ : List Loc} {m : Mem} {chs C : List zac} {h : zab}
def packF (S : Mem → Prop) (D : Fz) (b : Nat) (ch : zac) : Prop :=
 ∃ (m : Mem) (ρ : List Loc) (chs : List zac), S m ∧ ρ.length = m.length ∧ chs.length = m.length ∧ (∃ L, ρ[0]? = some L ∧ L.b = b) ∧ chs.flatten = ch ∧
   ∀ (i : Nat) (L : Loc) (ab : AB) (c : zac), ρ[i]? = some L → m[i]? = some ab → chs[i]? = some c → Ent D ρ L ab c
def Ob.of (S : Mem → Prop) : Ob where
 f := packF S
 mono := by
  rintro D D' b c ⟨m, ρ, chs, h1, h2, h3, h4, h5, h6⟩ l
  exact ⟨m, ρ, chs, h1, h2, h3, h4, h5, fun i L ab c q1 q2 q3 => by have := (h6 i L ab c q1 q2 q3).mono l (s := []); rwa [List.append_nil] at this⟩
theorem zo2 {ρ ρ' : List Loc} {vs : List Value} {args : List V} (h : RpL D ρ vs args) (hr : zak args = []) : RpL D ρ' vs args := by
 have := (ren_all (D := D) (ρ := ρ) (ρ' := ρ') (f := id)).2.1 h fun b hb => by rw [hr] at hb; cases hb
 rwa [zd9] at this
theorem rp_data {ρ ρ' : List Loc} {v : Value} {x : V} (h : Rp D ρ v x) (hr : zae x = []) : Rp D ρ' v x := by
 have := (ren_all (D := D) (ρ := ρ) (ρ' := ρ') (f := id)).1 h fun b hb => by rw [hr] at hb; cases hb
 rwa [renV_id] at this
def Nrm (m m2 : Mem) : Prop := ∀ (D : Fz) (ρ : List Loc) (chs : List zac), ρ.length = m.length → chs.length = m.length →
 (∀ (i : Nat) (L : Loc) (ab : AB) (c : zac), ρ[i]? = some L → m[i]? = some ab → chs[i]? = some c → Ent D ρ L ab c) →
 ∃ (ρ2 : List Loc) (chs2 : List zac), ρ2.length = m2.length ∧ chs2.length = m2.length ∧ (∀ L, ρ[0]? = some L → ρ2[0]? = some L) ∧ chs.flatten.Perm chs2.flatten ∧
   ∀ (i : Nat) (L : Loc) (ab : AB) (c : zac), ρ2[i]? = some L → m2[i]? = some ab → chs2[i]? = some c → Ent D ρ2 L ab c
theorem Nrm.refl (m : Mem) : Nrm m m := fun D ρ chs h1 h2 h3 => ⟨ρ, chs, h1, h2, fun L h => h, .refl _, h3⟩
abbrev f4 (b : Nat) : Nat := if b = 3 then 1 else b
theorem PRun.pack {S : Mem → Prop} {g : FuncId} {args : List V} {Q : V → Mem → Prop} (hr : zak args = [])
 (hh : ∀ m, S m → PRun P g m (.r 0 0 :: args) fun x m' => zae x = [] ∧ ∃ (m2 : Mem) (S' : Mem → Prop), Nrm m' m2 ∧ S' m2 ∧ Q x [.o (Ob.of S')]) : PRun P g [.o (Ob.of S)] (.r 0 0 :: args) Q := by
 intro D ρ chs C h vs M F
 obtain ⟨L, rfl⟩ : ∃ L, ρ = [L] := by
  have := M.len
  match ρ, this with
  | [L], _ => exact ⟨L, rfl⟩
 obtain ⟨ch, rfl⟩ : ∃ c, chs = [c] := by
  have := M.lch
  match chs, this with
  | [c], _ => exact ⟨c, rfl⟩
 have he := M.ent 0 L _ ch rfl rfl rfl
 cases he with
 | o hf =>
   obtain ⟨m, ρ1, chs1, hS, l1, l2, ⟨L1, hL1, hb⟩, rfl, hent⟩ := hf
   have M1 : SAt D ρ1 m chs1 C h := ⟨l1, l2, hent, M.st.perm (by simp)⟩
   cases F with
   | cons h1 h2 =>
     obtain ⟨L', hL', rfl⟩ := h1.r_inv
     have : L' = L := by simpa using hL'.symm
     subst this
     have hp := Rp.r (D := D) (o := 0) hL1
     rw [hb] at hp
     have F1 := RpL.cons hp (zo2 (ρ' := ρ1) h2 hr)
     refine (hh m hS D ρ1 chs1 C h _ M1 F1).mono ?_
     rintro v h' ⟨D', s, chs', x, m', le, M', hv, hx, m2, S', hN, hS', hQ⟩
     have hL2 : (ρ1 ++ s)[0]? = some L1 := by rw [List.getElem?_append_left (by have := (List.getElem?_eq_some_iff.1 hL1).1; exact this)]; exact hL1
     obtain ⟨ρ2, chs2, k1, k2, k3, k4, k5⟩ := hN D' (ρ1 ++ s) chs' M'.len M'.lch M'.ent
     refine ⟨D', [], [chs2.flatten], x, [.o (Ob.of S')], le, ⟨rfl, rfl, ?_, M'.st.perm (by simpa using k4.append_right C.flatten)⟩, rp_data hv hx, hQ⟩
     rintro i K ab c q1 q2 q3
     cases i with
     | zero =>
       simp at q1 q2 q3
       subst q1 q2 q3
       exact .o ⟨m2, ρ2, chs2, hS', k1, k2, ⟨L1, k3 L1 hL2, hb⟩, rfl, k5⟩
     | succ i => simp at q2
end
section
set_option maxRecDepth 100000
theorem mixIa6 : Tryz.prog.follows .mixedOrders = true := by kernel_rfl
theorem S15N {owner : Int} {n : Int} {Q : V → Mem → Prop} (hh : Q (.i 1) []) : PRun Tryz.prog 15 [] [.u (.p none), .i owner, .i n] Q :=
 zav mixIa6 Tryz.func15 (by kernel_rfl) (H := ⟨[], [], [45, 61], [], [], false, 64, KN.no, false, SP.no⟩) (n := 4) (by kernel_rfl) hh
theorem S15Z {owner : Int} {n : Int} {Q : V → Mem → Prop} (hh : Q (.i 1) [.c [.u (.p none), .u (.p none), .u (.p none), .u (.p none), .u (.p none), .u (.p none), .u (.p none), .i 0, .nl 2, .nl 2, .nl 2, .i 0, .nl 7, .i 0, .nl 4, .i 0, .i 0, .i 0, .i 0, .i 0]]) : PRun Tryz.prog 15 [.c [.u (.p none), .u (.p none), .u (.p none), .u (.p none), .u (.p none), .u (.p none), .u (.p none), .i 0, .nl 2, .nl 2, .nl 2, .i 0, .nl 7, .i 0, .nl 4, .i 0, .i 0, .i 0, .i 0, .i 0]] [.r 0 0, .i owner, .i n] Q :=
 zav mixIa6 Tryz.func15 (by kernel_rfl) (H := ⟨[], [], [45, 61], [], [], false, 64, KN.no, false, SP.no⟩) (n := 4) (by kernel_rfl) hh
end
section
set_option maxRecDepth 100000
theorem zcv : Tryz.prog.follows .mixedOrders = true := by kernel_rfl
theorem S254 {l : List (List U)} {types : Int} {Q : V → Mem → Prop} (hh : ∃ (I1 : Int → Int → Prop) (f1 : Int → Int → Nat), I1 0 0 ∧ (∀ x1 : Int, ∀ x2 : Int, I1 x1 x2 → (bif decide (x2 < (List.length l : Int)) then elL l x2 (fun r1 => dI .i64 (ug r1 0) (fun x3 => dI .i64 (ug r1 1) (fun x4 => (bif decide (x3 ≤ x1) then Q (.i 1) [] else (bif decide (x3 > types) then Q (.i 1) [] else (bif decide (x4 < 1) then Q (.i 1) [] else (bif decide (x4 > 1125899906842624) then Q (.i 1) [] else I1 x3 (IntKind.wrap .i64 (x2 + 1)) ∧ f1 x3 (IntKind.wrap .i64 (x2 + 1)) < f1 x1 x2))))))) else (bif decide ((List.length l : Int) > 8) then Q (.i 1) [] else Q (.i 0) [])))) : PRun Tryz.prog 254 [] [.l 2 l, .i types] Q :=
 zav zcv Tryz.func254 (by kernel_rfl) (H := ⟨[((254, 3, 0), ⟨[(5, .I), (10, .I)], []⟩)], [], [], [], [], false, 64, KN.no, false, SP.no⟩) (n := 2) (by kernel_rfl) hh
theorem S103 {l : List (List U)} {kind : Int} {Q : V → Mem → Prop} (hh : PRun Tryz.prog 195 [] [.l 2 l] (post [.L 2, .I] [] (fun l1 x1 => ∃ (I1 : Int → Prop) (f1 : Int → Nat), I1 0 ∧ (∀ x2 : Int, I1 x2 → (bif decide (x2 < (List.length l1 : Int)) then elL l1 x2 (fun r1 => dI .i64 (ug r1 0) (fun x3 => (bif x3 == kind then elL l1 x2 (fun r2 => dI .i64 (ug r2 1) (fun x4 => Q (.i x4) [])) else I1 (IntKind.wrap .i64 (x2 + 1)) ∧ f1 (IntKind.wrap .i64 (x2 + 1)) < f1 x2))) else Q (.i 0) []))))) : PRun Tryz.prog 103 [] [.l 2 l, .i kind] Q :=
 zav zcv Tryz.func103 (by kernel_rfl) (H := ⟨[((103, 3, 0), ⟨[(7, .I)], []⟩)], [], [], [], [], false, 64, KN.no, false, SP.no⟩) (n := 2) (by kernel_rfl) hh
theorem S195 {l : List (List U)} {Q : V → Mem → Prop} (hh : ∃ (I1 : Int → Prop) (f1 : Int → Nat), I1 0 ∧ (∀ x1 : Int, I1 x1 → (bif decide (x1 < (List.length l : Int)) then elL l x1 (fun r1 => dI .i64 (ug r1 0) (fun x2 => (bif decide (x2 < 1) then Q (.t [.l 2 [], .i 1]) [] else elL l x1 (fun r2 => dI .i64 (ug r2 1) (fun x3 => (bif decide (x3 < 0) then Q (.t [.l 2 [], .i 1]) [] else I1 (IntKind.wrap .i64 (x1 + 1)) ∧ f1 (IntKind.wrap .i64 (x1 + 1)) < f1 x1)))))) else ∃ (I2 : List (List U) → Int → Prop) (f2 : List (List U) → Int → Nat), I2 [] 0 ∧ (∀ l1 : List (List U), ∀ x4 : Int, I2 l1 x4 → ∃ (I3 : Int → Int → Prop) (f3 : Int → Int → Nat), I3 0 0 ∧ (∀ x5 : Int, ∀ x6 : Int, I3 x5 x6 → (bif decide (x6 < (List.length l : Int)) then elL l x6 (fun r3 => dI .i64 (ug r3 0) (fun x7 => (bif decide (x7 > x4) then (bif x5 == 0 then elL l x6 (fun r4 => dI .i64 (ug r4 0) (fun x8 => I3 x8 (IntKind.wrap .i64 (x6 + 1)) ∧ f3 x8 (IntKind.wrap .i64 (x6 + 1)) < f3 x5 x6)) else elL l x6 (fun r5 => dI .i64 (ug r5 0) (fun x9 => (bif decide (x9 < x5) then elL l x6 (fun r6 => dI .i64 (ug r6 0) (fun x10 => I3 x10 (IntKind.wrap .i64 (x6 + 1)) ∧ f3 x10 (IntKind.wrap .i64 (x6 + 1)) < f3 x5 x6)) else I3 x5 (IntKind.wrap .i64 (x6 + 1)) ∧ f3 x5 (IntKind.wrap .i64 (x6 + 1)) < f3 x5 x6)))) else I3 x5 (IntKind.wrap .i64 (x6 + 1)) ∧ f3 x5 (IntKind.wrap .i64 (x6 + 1)) < f3 x5 x6))) else (bif x5 == 0 then Q (.t [.l 2 l1, .i 0]) [] else ∃ (I4 : Int → Int → Prop) (f4 : Int → Int → Nat), I4 0 0 ∧ (∀ x11 : Int, ∀ x12 : Int, I4 x11 x12 → (bif decide (x12 < (List.length l : Int)) then elL l x12 (fun r7 => dI .i64 (ug r7 0) (fun x13 => (bif x13 == x5 then elL l x12 (fun r8 => dI .i64 (ug r8 1) (fun x14 => (bif decide (x14 > IntKind.wrap .i64 (1125899906842624 - x11)) then Q (.t [.l 2 [], .i 5]) [] else elL l x12 (fun r9 => dI .i64 (ug r9 1) (fun x15 => I4 (IntKind.wrap .i64 (x11 + x15)) (IntKind.wrap .i64 (x12 + 1)) ∧ f4 (IntKind.wrap .i64 (x11 + x15)) (IntKind.wrap .i64 (x12 + 1)) < f4 x11 x12))))) else I4 x11 (IntKind.wrap .i64 (x12 + 1)) ∧ f4 x11 (IntKind.wrap .i64 (x12 + 1)) < f4 x11 x12))) else (bif decide (x11 > 0) then zet l1 [[.n x5, .n x11]] ∧ (I2 (l1 ++ [[.n x5, .n x11]]) x5 ∧ f2 (l1 ++ [[.n x5, .n x11]]) x5 < f2 l1 x4) else I2 l1 x5 ∧ f2 l1 x5 < f2 l1 x4)))))))))) : PRun Tryz.prog 195 [] [.l 2 l] Q :=
 zav zcv Tryz.func195 (by kernel_rfl) (H := ⟨[((195, 2, 0), ⟨[(4, .I)], []⟩), ((195, 8, 0), ⟨[(5, .one (.ow 102 2)), (6, .I)], []⟩), ((195, 10, 1), ⟨[(7, .I), (8, .I)], []⟩), ((195, 18, 1), ⟨[(9, .I), (10, .I)], []⟩)], [], [], [], [], false, 64, KN.no, false, SP.no⟩) (n := 2) (by kernel_rfl) hh
theorem S28 {a : List (List U)} {b : List (List U)} {Q : V → Mem → Prop} (hh : bif (List.length a : Int) != (List.length b : Int) then Q (.u (.b false)) [] else ∃ (I1 : Int → Prop) (f1 : Int → Nat), I1 0 ∧ (∀ x1 : Int, I1 x1 → (bif decide (x1 < (List.length a : Int)) then (bif decide (x1 < (List.length b : Int)) then elL a x1 (fun r1 => dI .i64 (ug r1 0) (fun x2 => dI .i64 (ug r1 1) (fun x3 => elL b x1 (fun r2 => dI .i64 (ug r2 0) (fun x4 => dI .i64 (ug r2 1) (fun x5 => (bif !(x2 == x4 && (x3 == x5 && true)) then Q (.u (.b false)) [] else I1 (IntKind.wrap .i64 (x1 + 1)) ∧ f1 (IntKind.wrap .i64 (x1 + 1)) < f1 x1))))))) else Q (.u (.b true)) []) else Q (.u (.b true)) []))) : PRun Tryz.prog 28 [] [.l 2 a, .l 2 b] Q :=
 zav zcv Tryz.func28 (by kernel_rfl) (H := ⟨[((28, 4, 0), ⟨[(5, .I)], []⟩)], [], [], [], [], false, 64, KN.no, false, SP.no⟩) (n := 2) (by kernel_rfl) hh
theorem S102 {l : List (List U)} {types : Int} {Q : V → Mem → Prop} (hh : bif decide ((List.length l : Int) > 8) then Q (.i 1) [] else PRun Tryz.prog 195 [] [.l 2 l] (post [.L 2, .I] [] (fun l1 x1 => (bif x1 != 0 then Q (.i 1) [] else PRun Tryz.prog 28 [] [.l 2 l1, .l 2 l] (post [.B] [] (fun b1 => (bif !b1 then Q (.i 1) [] else (bif decide ((List.length l : Int) > 0) then elL l (IntKind.wrap .i64 ((List.length l : Int) - 1)) (fun r1 => dI .i64 (ug r1 0) (fun x2 => (bif decide (x2 > types) then Q (.i 1) [] else Q (.i 0) []))) else Q (.i 0) []) : Prop))) : Prop)))) : PRun Tryz.prog 102 [] [.l 2 l, .i types] Q :=
 zav zcv Tryz.func102 (by kernel_rfl) (H := ⟨[], [], [], [], [], false, 64, KN.no, false, SP.no⟩) (n := 2) (by kernel_rfl) hh
theorem S91 {x : List (List U)} {Q : V → Mem → Prop} (hh : bif decide ((List.length x : Int) < 1) then False else elL x 0 (fun r1 => dI .i64 (ug r1 0) (fun x1 => ∃ (I1 : Int → Int → Prop) (f1 : Int → Int → Nat), I1 x1 1 ∧ (∀ x2 : Int, ∀ x3 : Int, I1 x2 x3 → (bif decide (x3 < (List.length x : Int)) then elL x x3 (fun r2 => dI .i64 (ug r2 0) (fun x4 => I1 (if x4 > x2 then x4 else x2) (IntKind.wrap .i64 (x3 + 1)) ∧ f1 (if x4 > x2 then x4 else x2) (IntKind.wrap .i64 (x3 + 1)) < f1 x2 x3)) else Q (.i x2) []))))) : PRun Tryz.prog 91 [] [.l 1 x] Q :=
 zav zcv Tryz.func91 (by kernel_rfl) (H := ⟨[((91, 5, 0), ⟨[(3, .I), (4, .I)], []⟩)], [], [], [], [], false, 64, KN.no, false, SP.no⟩) (n := 2) (by kernel_rfl) hh
theorem S101 {n : Int} {from0 : Int} {to0 : Int} {Q : V → Mem → Prop} (hh : bif decide (n ≥ from0) then Q (.u (.b (decide (n ≤ to0)))) [] else Q (.u (.b false)) []) : PRun Tryz.prog 101 [] [.i n, .i from0, .i to0] Q :=
 zav zcv Tryz.func101 (by kernel_rfl) (H := ⟨[], [], [], [], [], false, 64, KN.no, false, SP.no⟩) (n := 2) (by kernel_rfl) hh
theorem S90 {c_0 : Int} {c_1 : List (List U)} {c_2 : Int} {c_3 : List (List U)} {c_4 : Int} {c_5 : Int} {c_6 : Int} {c_7 : Int} {Q : V → Mem → Prop} (hh : ∃ (I1 : List (List U) → Int → Prop) (f1 : List (List U) → Int → Nat), I1 [] 0 ∧ (∀ l1 : List (List U), ∀ x1 : Int, I1 l1 x1 → (bif decide (x1 < (List.length c_1 : Int)) then elL c_1 x1 (fun r1 => dI .i64 (ug r1 0) (fun x2 => dI .i64 (ug r1 1) (fun x3 => dI .i64 (ug r1 2) (fun x4 => dL 2 (ug r1 3) (fun l2 => dI .i64 (ug r1 4) (fun x5 => dI .i64 (ug r1 5) (fun x6 => dI .i64 (ug r1 6) (fun x7 => ∃ (I2 : List (List U) → Int → Prop) (f2 : List (List U) → Int → Nat), I2 l1 0 ∧ (∀ l3 : List (List U), ∀ x8 : Int, I2 l3 x8 → (bif decide (x8 < (List.length l2 : Int)) then elL l2 x8 (fun r2 => dI .i64 (ug r2 0) (fun x9 => dI .i64 (ug r2 1) (fun x10 => zet l3 [[.n x2, .n x9]] ∧ (I2 (l3 ++ [[.n x2, .n x9]]) (IntKind.wrap .i64 (x8 + 1)) ∧ f2 (l3 ++ [[.n x2, .n x9]]) (IntKind.wrap .i64 (x8 + 1)) < f2 l3 x8)))) else I1 l3 (IntKind.wrap .i64 (x1 + 1)) ∧ f1 l3 (IntKind.wrap .i64 (x1 + 1)) < f1 l1 x1)))))))))) else Q (.l 2 l1) []))) : PRun Tryz.prog 90 [] [.a [.i c_0, .l 7 c_1, .i c_2, .l 4 c_3, .i c_4, .i c_5, .i c_6, .i c_7]] Q :=
 zav zcv Tryz.func90 (by kernel_rfl) (H := ⟨[((90, 3, 1), ⟨[(3, .one (.ow 194 2)), (11, .I)], []⟩), ((90, 6, 3), ⟨[(3, .one (.ow 194 2)), (18, .I)], []⟩)], [], [], [], [], false, 64, KN.no, false, SP.no⟩) (n := 2) (by kernel_rfl) hh
theorem S88 {c_0 : Int} {c_1 : List (List U)} {c_2 : Int} {c_3 : List (List U)} {c_4 : Int} {c_5 : Int} {c_6 : Int} {c_7 : Int} {Q : V → Mem → Prop} (hh : ∀ k1 : Bool → Prop, (∀ b1 : Bool, (∀ k2 : Bool → Prop, (∀ b2 : Bool, (Q (.u (.b b2)) []) → k2 b2) → (bif b1 then ∃ (I1 : Int → Prop) (f1 : Int → Nat), I1 0 ∧ (∀ x1 : Int, I1 x1 → (bif decide (x1 < (List.length c_1 : Int)) then elL c_1 x1 (fun r1 => dI .i64 (ug r1 0) (fun x2 => dI .i64 (ug r1 1) (fun x3 => dI .i64 (ug r1 2) (fun x4 => dL 2 (ug r1 3) (fun l1 => dI .i64 (ug r1 4) (fun x5 => dI .i64 (ug r1 5) (fun x6 => dI .i64 (ug r1 6) (fun x7 => PRun Tryz.prog 176 [] [.a [.i x2, .i x3, .i x4, .l 2 l1, .i x5, .i x6, .i x7], .i c_0] (post [.I] [] (fun x8 => (bif x8 != 0 then (bif !(decide (x1 ≥ 0)) then ∃ (I2 : Int → Prop) (f2 : Int → Nat), I2 0 ∧ (∀ x9 : Int, I2 x9 → (bif decide (x9 < (List.length c_3 : Int)) then elL c_3 x9 (fun r2 => dI .i64 (ug r2 0) (fun x10 => dI .i64 (ug r2 1) (fun x11 => dI .i64 (ug r2 2) (fun x12 => dI .i64 (ug r2 3) (fun x13 => PRun Tryz.prog 174 [] [.i x10, .i 1, .i c_2] (post [.B] [] (fun b3 => (bif !b3 then (bif !(decide (x9 ≥ 0)) then PRun Tryz.prog 180 [] [.a [.i c_5, .i c_6, .i c_7]] (post [.I] [] (fun x14 => (k2 (x14 == 0) : Prop))) else k2 false) else PRun Tryz.prog 174 [] [.i x11, .i 0, .i 8] (post [.B] [] (fun b4 => (bif !b4 then (bif !(decide (x9 ≥ 0)) then PRun Tryz.prog 180 [] [.a [.i c_5, .i c_6, .i c_7]] (post [.I] [] (fun x15 => (k2 (x15 == 0) : Prop))) else k2 false) else PRun Tryz.prog 174 [] [.i x12, .i 0, .i 8] (post [.B] [] (fun b5 => (bif !b5 then (bif !(decide (x9 ≥ 0)) then PRun Tryz.prog 180 [] [.a [.i c_5, .i c_6, .i c_7]] (post [.I] [] (fun x16 => (k2 (x16 == 0) : Prop))) else k2 false) else PRun Tryz.prog 174 [] [.i x13, .i 0, .i 10000] (post [.B] [] (fun b6 => (bif !b6 then (bif !(decide (x9 ≥ 0)) then PRun Tryz.prog 180 [] [.a [.i c_5, .i c_6, .i c_7]] (post [.I] [] (fun x17 => (k2 (x17 == 0) : Prop))) else k2 false) else I2 (IntKind.wrap .i64 (x9 + 1)) ∧ f2 (IntKind.wrap .i64 (x9 + 1)) < f2 x9 : Prop))) : Prop))) : Prop))) : Prop)))))))) else PRun Tryz.prog 180 [] [.a [.i c_5, .i c_6, .i c_7]] (post [.I] [] (fun x18 => (k2 (x18 == 0) : Prop))))) else k2 false) else I1 (IntKind.wrap .i64 (x1 + 1)) ∧ f1 (IntKind.wrap .i64 (x1 + 1)) < f1 x1 : Prop))))))))))) else ∃ (I3 : Int → Prop) (f3 : Int → Nat), I3 0 ∧ (∀ x19 : Int, I3 x19 → (bif decide (x19 < (List.length c_3 : Int)) then elL c_3 x19 (fun r3 => dI .i64 (ug r3 0) (fun x20 => dI .i64 (ug r3 1) (fun x21 => dI .i64 (ug r3 2) (fun x22 => dI .i64 (ug r3 3) (fun x23 => PRun Tryz.prog 174 [] [.i x20, .i 1, .i c_2] (post [.B] [] (fun b7 => (bif !b7 then (bif !(decide (x19 ≥ 0)) then PRun Tryz.prog 180 [] [.a [.i c_5, .i c_6, .i c_7]] (post [.I] [] (fun x24 => (k2 (x24 == 0) : Prop))) else k2 false) else PRun Tryz.prog 174 [] [.i x21, .i 0, .i 8] (post [.B] [] (fun b8 => (bif !b8 then (bif !(decide (x19 ≥ 0)) then PRun Tryz.prog 180 [] [.a [.i c_5, .i c_6, .i c_7]] (post [.I] [] (fun x25 => (k2 (x25 == 0) : Prop))) else k2 false) else PRun Tryz.prog 174 [] [.i x22, .i 0, .i 8] (post [.B] [] (fun b9 => (bif !b9 then (bif !(decide (x19 ≥ 0)) then PRun Tryz.prog 180 [] [.a [.i c_5, .i c_6, .i c_7]] (post [.I] [] (fun x26 => (k2 (x26 == 0) : Prop))) else k2 false) else PRun Tryz.prog 174 [] [.i x23, .i 0, .i 10000] (post [.B] [] (fun b10 => (bif !b10 then (bif !(decide (x19 ≥ 0)) then PRun Tryz.prog 180 [] [.a [.i c_5, .i c_6, .i c_7]] (post [.I] [] (fun x27 => (k2 (x27 == 0) : Prop))) else k2 false) else I3 (IntKind.wrap .i64 (x19 + 1)) ∧ f3 (IntKind.wrap .i64 (x19 + 1)) < f3 x19 : Prop))) : Prop))) : Prop))) : Prop)))))))) else PRun Tryz.prog 180 [] [.a [.i c_5, .i c_6, .i c_7]] (post [.I] [] (fun x28 => (k2 (x28 == 0) : Prop))))))) else k2 false)) → k1 b1) → PRun Tryz.prog 174 [] [.i c_0, .i 1, .i 32] (post [.B] [] (fun b11 => (bif b11 then PRun Tryz.prog 174 [] [.i c_2, .i 1, .i 8] (post [.B] [] (fun b12 => (bif b12 then PRun Tryz.prog 174 [] [.i c_4, .i 1, .i 16] (post [.B] [] (fun b13 => (bif b13 then (bif decide ((List.length c_1 : Int) ≤ 16) then k1 (decide ((List.length c_3 : Int) ≤ 8)) else k1 false) else k1 false : Prop))) else k1 false : Prop))) else k1 false : Prop)))) : PRun Tryz.prog 88 [] [.a [.i c_0, .l 7 c_1, .i c_2, .l 4 c_3, .i c_4, .i c_5, .i c_6, .i c_7]] Q :=
 zav zcv Tryz.func88 (by kernel_rfl) (H := ⟨[((255, 2, 1), ⟨[(8, .I)], []⟩), ((256, 2, 1), ⟨[(8, .I)], []⟩), ((256, 2, 2), ⟨[(8, .I)], []⟩)], [((88, 0, 1), ⟨[(2, .B)], []⟩), ((88, 2, 1), ⟨[(3, .B)], []⟩)], [175, 177, 178, 179, 255, 256], [], [], false, 64, KN.no, false, SP.no⟩) (n := 5) (by kernel_rfl) hh
theorem S29 {c_0 : Int} {c_1 : List (List U)} {c_2 : Int} {c_3 : List (List U)} {c_4 : Int} {c_5 : Int} {c_6 : Int} {c_7 : Int} {Q : V → Mem → Prop} (hh : PRun Tryz.prog 88 [] [.a [.i c_0, .l 7 c_1, .i c_2, .l 4 c_3, .i c_4, .i c_5, .i c_6, .i c_7]] (post [.B] [] (fun b1 => (bif !b1 then Q (.i 1) [] else PRun Tryz.prog 90 [] [.a [.i c_0, .l 7 c_1, .i c_2, .l 4 c_3, .i c_4, .i c_5, .i c_6, .i c_7]] (post [.L 2] [] (fun l1 => (PRun Tryz.prog 89 [] [.i c_0, .l 2 l1] (post [.L 1, .I] [] (fun l2 x1 => (bif x1 != 0 then Q (.i x1) [] else PRun Tryz.prog 91 [] [.l 1 l2] (post [.I] [] (fun x2 => (bif decide (x2 > 8) then Q (.i 5) [] else Q (.i 0) [] : Prop))) : Prop))) : Prop))) : Prop)))) : PRun Tryz.prog 29 [] [.a [.i c_0, .l 7 c_1, .i c_2, .l 4 c_3, .i c_4, .i c_5, .i c_6, .i c_7]] Q :=
 zav zcv Tryz.func29 (by kernel_rfl) (H := ⟨[], [], [], [], [], false, 64, KN.no, false, SP.no⟩) (n := 2) (by kernel_rfl) hh
theorem S89 {n : Int} {needs : List (List U)} {Q : V → Mem → Prop} (hh : PRun Tryz.prog 181 [] [.i n, .l 2 needs] (post [.one .p, .L 1, .I] [] (fun p1 l1 x1 => (bif x1 != 0 then Q (.t [.l 1 [], .i x1]) [] else 0 ≤ n ∧ n ≤ 1000000 ∧ n = n ∧ (∃ (I1 : Int → List (List U) → Prop) (f1 : Int → List (List U) → Nat), I1 0 (List.replicate (Int.toNat n) ([.n 0] : List U)) ∧ (∀ x2 : Int, ∀ l2 : List (List U), I1 x2 l2 → (bif decide (x2 < (List.length l1 : Int)) then elL l1 x2 (fun r1 => dI .i64 (ug r1 0) (fun x3 => oP p1 (fun c1 => idxK x3 65 (fun j1 => dL 1 (ug c1 (1 + j1 * 1)) (fun l3 => ∃ (I2 : Int → List (List U) → Prop) (f2 : Int → List (List U) → Nat), I2 0 l2 ∧ (∀ x4 : Int, ∀ l4 : List (List U), I2 x4 l4 → (bif decide (x4 < (List.length l3 : Int)) then elL l3 x4 (fun r2 => dI .i64 (ug r2 0) (fun x5 => 0 ≤ IntKind.wrap .i64 (x3 - 1) ∧ IntKind.wrap .i64 (x3 - 1) < (List.length l4 : Int) ∧ (elL l4 (IntKind.wrap .i64 (x3 - 1)) (fun r3 => dI .i64 (ug r3 0) (fun x6 => 0 ≤ IntKind.wrap .i64 (x5 - 1) ∧ IntKind.wrap .i64 (x5 - 1) < (List.length l4 : Int) ∧ (elL l4 (IntKind.wrap .i64 (x5 - 1)) (fun r4 => dI .i64 (ug r4 0) (fun x7 => 0 ≤ IntKind.wrap .i64 (x3 - 1) ∧ IntKind.wrap .i64 (x3 - 1) < (List.length l4 : Int) ∧ (I2 (IntKind.wrap .i64 (x4 + 1)) (List.set l4 (Int.toNat (IntKind.wrap .i64 (x3 - 1))) [.n (if IntKind.wrap .i64 (x7 + 1) > x6 then IntKind.wrap .i64 (x7 + 1) else x6)]) ∧ f2 (IntKind.wrap .i64 (x4 + 1)) (List.set l4 (Int.toNat (IntKind.wrap .i64 (x3 - 1))) [.n (if IntKind.wrap .i64 (x7 + 1) > x6 then IntKind.wrap .i64 (x7 + 1) else x6)]) < f2 x4 l4))))))))) else I1 (IntKind.wrap .i64 (x2 + 1)) l4 ∧ f1 (IntKind.wrap .i64 (x2 + 1)) l4 < f1 x2 l2))))))) else Q (.t [.l 1 l2, .i 0]) []))) : Prop)))) : PRun Tryz.prog 89 [] [.i n, .l 2 needs] Q :=
 zav zcv Tryz.func89 (by kernel_rfl) (H := ⟨[((89, 6, 1), ⟨[(28, .I)], [(0, .row 3 1)]⟩), ((89, 9, 1), ⟨[(39, .I)], [(0, .row 3 1)]⟩)], [], [], [], [], false, 64, KN.no, false, SP.no⟩) (n := 2) (by kernel_rfl) hh
theorem S180 {f_0 : Int} {f_1 : Int} {f_2 : Int} {Q : V → Mem → Prop} (hh : PRun Tryz.prog 243 [] [.i f_0] (post [.B] [] (fun b1 => (bif b1 then PRun Tryz.prog 243 [] [.i f_2] (post [.B] [] (fun b2 => (bif b2 then PRun Tryz.prog 257 [] [.i f_1] (post [.B] [] (fun b3 => (bif b3 then Q (.i 0) [] else Q (.i 1) [] : Prop))) else Q (.i 1) [] : Prop))) else Q (.i 1) [] : Prop)))) : PRun Tryz.prog 180 [] [.a [.i f_0, .i f_1, .i f_2]] Q :=
 zav zcv Tryz.func180 (by kernel_rfl) (H := ⟨[], [], [], [], [], false, 64, KN.no, false, SP.no⟩) (n := 2) (by kernel_rfl) hh
theorem S243 {n : Int} {Q : V → Mem → Prop} (hh : bif decide (n ≥ 0) then Q (.u (.b (decide (n ≤ 10000)))) [] else Q (.u (.b false)) []) : PRun Tryz.prog 243 [] [.i n] Q :=
 zav zcv Tryz.func243 (by kernel_rfl) (H := ⟨[], [], [], [], [], false, 64, KN.no, false, SP.no⟩) (n := 2) (by kernel_rfl) hh
theorem S257 {n : Int} {Q : V → Mem → Prop} (hh : bif decide (n ≥ 0) then Q (.u (.b (decide (n ≤ 1152921504606846976)))) [] else Q (.u (.b false)) []) : PRun Tryz.prog 257 [] [.i n] Q :=
 zav zcv Tryz.func257 (by kernel_rfl) (H := ⟨[], [], [], [], [], false, 64, KN.no, false, SP.no⟩) (n := 2) (by kernel_rfl) hh
theorem S8 {c_0 : Int} {c_1 : List (List U)} {c_2 : Int} {c_3 : List (List U)} {c_4 : Int} {c_5 : Int} {c_6 : Int} {c_7 : Int} {Q : V → Mem → Prop} (hh : PRun Tryz.prog 31 [] [.i c_0, .i 1, .i 32] (post [.B] [] (fun b1 => (bif !b1 then Q (.i 1) [] else PRun Tryz.prog 31 [] [.i c_2, .i 1, .i 8] (post [.B] [] (fun b2 => (bif !b2 then Q (.i 1) [] else PRun Tryz.prog 31 [] [.i c_4, .i 1, .i 16] (post [.B] [] (fun b3 => (bif !b3 then Q (.i 1) [] else (bif decide ((List.length c_1 : Int) > 16) then Q (.i 1) [] else (bif decide ((List.length c_3 : Int) > 8) then Q (.i 1) [] else PRun Tryz.prog 32 [] [.a [.i c_5, .i c_6, .i c_7]] (post [.I] [] (fun x1 => (bif x1 != 0 then Q (.i 1) [] else ∃ (I1 : Int → Prop) (f1 : Int → Nat), I1 0 ∧ (∀ x2 : Int, I1 x2 → (bif decide (x2 < (List.length c_1 : Int)) then elL c_1 x2 (fun r1 => dI .i64 (ug r1 0) (fun x3 => dI .i64 (ug r1 1) (fun x4 => dI .i64 (ug r1 2) (fun x5 => dL 2 (ug r1 3) (fun l1 => dI .i64 (ug r1 4) (fun x6 => dI .i64 (ug r1 5) (fun x7 => dI .i64 (ug r1 6) (fun x8 => PRun Tryz.prog 33 [] [.a [.i x3, .i x4, .i x5, .l 2 l1, .i x6, .i x7, .i x8], .i c_0] (post [.I] [] (fun x9 => (bif x9 != 0 then Q (.i 1) [] else I1 (IntKind.wrap .i64 (x2 + 1)) ∧ f1 (IntKind.wrap .i64 (x2 + 1)) < f1 x2 : Prop))))))))))) else ∃ (I2 : Int → Prop) (f2 : Int → Nat), I2 0 ∧ (∀ x10 : Int, I2 x10 → (bif decide (x10 < (List.length c_3 : Int)) then elL c_3 x10 (fun r2 => dI .i64 (ug r2 0) (fun x11 => dI .i64 (ug r2 1) (fun x12 => dI .i64 (ug r2 2) (fun x13 => dI .i64 (ug r2 3) (fun x14 => PRun Tryz.prog 31 [] [.i x11, .i 1, .i c_2] (post [.B] [] (fun b4 => (bif !b4 then Q (.i 1) [] else PRun Tryz.prog 31 [] [.i x12, .i 0, .i 8] (post [.B] [] (fun b5 => (bif !b5 then Q (.i 1) [] else PRun Tryz.prog 31 [] [.i x13, .i 0, .i 8] (post [.B] [] (fun b6 => (bif !b6 then Q (.i 1) [] else PRun Tryz.prog 31 [] [.i x14, .i 0, .i 10000] (post [.B] [] (fun b7 => (bif !b7 then Q (.i 1) [] else I2 (IntKind.wrap .i64 (x10 + 1)) ∧ f2 (IntKind.wrap .i64 (x10 + 1)) < f2 x10 : Prop))) : Prop))) : Prop))) : Prop)))))))) else PRun Tryz.prog 35 [] [.a [.i c_0, .l 7 c_1, .i c_2, .l 4 c_3, .i c_4, .i c_5, .i c_6, .i c_7]] (post [.L 2] [] (fun l2 => (PRun Tryz.prog 34 [] [.i c_0, .l 2 l2] (post [.L 1, .I] [] (fun l3 x15 => (bif x15 != 0 then Q (.i x15) [] else ∃ (I3 : Int → Prop) (f3 : Int → Nat), I3 0 ∧ (∀ x16 : Int, I3 x16 → (bif decide (x16 < (List.length l3 : Int)) then elL l3 x16 (fun r3 => dI .i64 (ug r3 0) (fun x17 => (bif decide (x17 > 8) then Q (.i 5) [] else I3 (IntKind.wrap .i64 (x16 + 1)) ∧ f3 (IntKind.wrap .i64 (x16 + 1)) < f3 x16))) else Q (.i 0) [])) : Prop))) : Prop))))))) : Prop))))) : Prop))) : Prop))) : Prop)))) : PRun Tryz.prog 8 [] [.a [.i c_0, .l 7 c_1, .i c_2, .l 4 c_3, .i c_4, .i c_5, .i c_6, .i c_7]] Q :=
 zav zcv Tryz.func8 (by kernel_rfl) (H := ⟨[((8, 4, 1), ⟨[(3, .I)], []⟩), ((8, 9, 1), ⟨[(4, .I)], []⟩), ((8, 18, 1), ⟨[(8, .I)], []⟩)], [], [], [], [], false, 64, KN.no, false, SP.no⟩) (n := 2) (by kernel_rfl) hh
theorem S35 {c_0 : Int} {c_1 : List (List U)} {c_2 : Int} {c_3 : List (List U)} {c_4 : Int} {c_5 : Int} {c_6 : Int} {c_7 : Int} {Q : V → Mem → Prop} (hh : ∃ (I1 : List (List U) → Int → Prop) (f1 : List (List U) → Int → Nat), I1 [] 0 ∧ (∀ l1 : List (List U), ∀ x1 : Int, I1 l1 x1 → (bif decide (x1 < (List.length c_1 : Int)) then ∃ (I2 : List (List U) → Int → Prop) (f2 : List (List U) → Int → Nat), I2 l1 0 ∧ (∀ l2 : List (List U), ∀ x2 : Int, I2 l2 x2 → elL c_1 x1 (fun r1 => dL 2 (ug r1 3) (fun l3 => (bif decide (x2 < (List.length l3 : Int)) then elL c_1 x1 (fun r2 => dI .i64 (ug r2 0) (fun x3 => elL c_1 x1 (fun r3 => dL 2 (ug r3 3) (fun l4 => elL l4 x2 (fun r4 => dI .i64 (ug r4 0) (fun x4 => zet l2 [[.n x3, .n x4]] ∧ (I2 (l2 ++ [[.n x3, .n x4]]) (IntKind.wrap .i64 (x2 + 1)) ∧ f2 (l2 ++ [[.n x3, .n x4]]) (IntKind.wrap .i64 (x2 + 1)) < f2 l2 x2))))))) else I1 l2 (IntKind.wrap .i64 (x1 + 1)) ∧ f1 l2 (IntKind.wrap .i64 (x1 + 1)) < f1 l1 x1)))) else Q (.l 2 l1) []))) : PRun Tryz.prog 35 [] [.a [.i c_0, .l 7 c_1, .i c_2, .l 4 c_3, .i c_4, .i c_5, .i c_6, .i c_7]] Q :=
 zav zcv Tryz.func35 (by kernel_rfl) (H := ⟨[((35, 3, 1), ⟨[(3, .one (.ow 194 2)), (4, .I)], []⟩), ((35, 6, 2), ⟨[(3, .one (.ow 194 2)), (5, .I)], []⟩)], [], [], [], [], false, 64, KN.no, false, SP.no⟩) (n := 2) (by kernel_rfl) hh
theorem S31 {n : Int} {from0 : Int} {to0 : Int} {Q : V → Mem → Prop} (hh : bif decide (n ≥ from0) then Q (.u (.b (decide (n ≤ to0)))) [] else Q (.u (.b false)) []) : PRun Tryz.prog 31 [] [.i n, .i from0, .i to0] Q :=
 zav zcv Tryz.func31 (by kernel_rfl) (H := ⟨[], [], [], [], [], false, 64, KN.no, false, SP.no⟩) (n := 2) (by kernel_rfl) hh
theorem S32 {f_0 : Int} {f_1 : Int} {f_2 : Int} {Q : V → Mem → Prop} (hh : bif decide (f_0 < 0) then Q (.i 1) [] else (bif decide (f_0 > 10000) then Q (.i 1) [] else (bif decide (f_2 < 0) then Q (.i 1) [] else (bif decide (f_2 > 10000) then Q (.i 1) [] else (bif decide (f_1 < 0) then Q (.i 1) [] else (bif decide (f_1 > 1152921504606846976) then Q (.i 1) [] else Q (.i 0) [])))))) : PRun Tryz.prog 32 [] [.a [.i f_0, .i f_1, .i f_2]] Q :=
 zav zcv Tryz.func32 (by kernel_rfl) (H := ⟨[], [], [], [], [], false, 64, KN.no, false, SP.no⟩) (n := 2) (by kernel_rfl) hh
theorem S34 {n : Int} {needs : List (List U)} {Q : V → Mem → Prop} (hh : PRun Tryz.prog 104 [] [.i n, .l 2 needs] (post [.L 1, .I] [] (fun l1 x1 => (bif x1 != 0 then Q (.t [.l 1 [], .i x1]) [] else 0 ≤ n ∧ n ≤ 1000000 ∧ n = n ∧ (∃ (I1 : Int → List (List U) → Prop) (f1 : Int → List (List U) → Nat), I1 0 (List.replicate (Int.toNat n) ([.n 0] : List U)) ∧ (∀ x2 : Int, ∀ l2 : List (List U), I1 x2 l2 → (bif decide (x2 < (List.length l1 : Int)) then ∃ (I2 : Int → List (List U) → Prop) (f2 : Int → List (List U) → Nat), I2 0 l2 ∧ (∀ x3 : Int, ∀ l3 : List (List U), I2 x3 l3 → (bif decide (x3 < (List.length needs : Int)) then elL needs x3 (fun r1 => dI .i64 (ug r1 0) (fun x4 => elL l1 x2 (fun r2 => dI .i64 (ug r2 0) (fun x5 => (bif x4 == x5 then elL l1 x2 (fun r3 => dI .i64 (ug r3 0) (fun x6 => elL l1 x2 (fun r4 => dI .i64 (ug r4 0) (fun x7 => 0 ≤ IntKind.wrap .i64 (x7 - 1) ∧ IntKind.wrap .i64 (x7 - 1) < (List.length l3 : Int) ∧ (elL l3 (IntKind.wrap .i64 (x7 - 1)) (fun r5 => dI .i64 (ug r5 0) (fun x8 => elL needs x3 (fun r6 => dI .i64 (ug r6 1) (fun x9 => 0 ≤ IntKind.wrap .i64 (x9 - 1) ∧ IntKind.wrap .i64 (x9 - 1) < (List.length l3 : Int) ∧ (elL l3 (IntKind.wrap .i64 (x9 - 1)) (fun r7 => dI .i64 (ug r7 0) (fun x10 => 0 ≤ IntKind.wrap .i64 (x6 - 1) ∧ IntKind.wrap .i64 (x6 - 1) < (List.length l3 : Int) ∧ (I2 (IntKind.wrap .i64 (x3 + 1)) (List.set l3 (Int.toNat (IntKind.wrap .i64 (x6 - 1))) [.n (if IntKind.wrap .i64 (x10 + 1) > x8 then IntKind.wrap .i64 (x10 + 1) else x8)]) ∧ f2 (IntKind.wrap .i64 (x3 + 1)) (List.set l3 (Int.toNat (IntKind.wrap .i64 (x6 - 1))) [.n (if IntKind.wrap .i64 (x10 + 1) > x8 then IntKind.wrap .i64 (x10 + 1) else x8)]) < f2 x3 l3))))))))))))) else I2 (IntKind.wrap .i64 (x3 + 1)) l3 ∧ f2 (IntKind.wrap .i64 (x3 + 1)) l3 < f2 x3 l3))))) else I1 (IntKind.wrap .i64 (x2 + 1)) l3 ∧ f1 (IntKind.wrap .i64 (x2 + 1)) l3 < f1 x2 l2)) else Q (.t [.l 1 l2, .i 0]) []))) : Prop)))) : PRun Tryz.prog 34 [] [.i n, .l 2 needs] Q :=
 zav zcv Tryz.func34 (by kernel_rfl) (H := ⟨[((34, 6, 1), ⟨[(9, .I)], [(0, .row 3 1)]⟩), ((34, 9, 1), ⟨[(10, .I)], [(0, .row 3 1)]⟩)], [], [], [], [], false, 64, KN.no, false, SP.no⟩) (n := 2) (by kernel_rfl) hh
theorem S196 {n : Int} {needs : List (List U)} {Q : V → Mem → Prop} (hh : bif decide (n < 0) then Q (.u (.b false)) [] else (bif decide (n > 64) then Q (.u (.b false)) [] else (bif decide ((List.length needs : Int) > 256) then Q (.u (.b false)) [] else ∃ (I1 : Int → Prop) (f1 : Int → Nat), I1 0 ∧ (∀ x1 : Int, I1 x1 → (bif decide (x1 < (List.length needs : Int)) then elL needs x1 (fun r1 => dI .i64 (ug r1 0) (fun x2 => (bif decide (x2 < 1) then Q (.u (.b false)) [] else elL needs x1 (fun r2 => dI .i64 (ug r2 0) (fun x3 => (bif decide (x3 > n) then Q (.u (.b false)) [] else elL needs x1 (fun r3 => dI .i64 (ug r3 1) (fun x4 => (bif decide (x4 < 1) then Q (.u (.b false)) [] else elL needs x1 (fun r4 => dI .i64 (ug r4 1) (fun x5 => (bif decide (x5 > n) then Q (.u (.b false)) [] else I1 (IntKind.wrap .i64 (x1 + 1)) ∧ f1 (IntKind.wrap .i64 (x1 + 1)) < f1 x1)))))))))))) else Q (.u (.b true)) []))))) : PRun Tryz.prog 196 [] [.i n, .l 2 needs] Q :=
 zav zcv Tryz.func196 (by kernel_rfl) (H := ⟨[((196, 4, 0), ⟨[(5, .I)], []⟩)], [], [], [], [], false, 64, KN.no, false, SP.no⟩) (n := 2) (by kernel_rfl) hh
theorem S197w {l : List (List U)} {n : Int} {Q : V → Mem → Prop} (hh : ∃ (I1 : Int → Prop) (f1 : Int → Nat), I1 0 ∧ (∀ x1 : Int, I1 x1 → (bif decide (x1 < (List.length l : Int)) then 0 ≤ x1 ∧ x1 < (List.length l : Int) ∧ (elL l x1 (fun r1 => dI .i64 (ug r1 0) (fun x2 => (bif x2 == n then Q (.u (.b true)) [.w 3 1 l] else I1 (IntKind.wrap .i64 (x1 + 1)) ∧ f1 (IntKind.wrap .i64 (x1 + 1)) < f1 x1)))) else Q (.u (.b false)) [.w 3 1 l]))) : PRun Tryz.prog 197 [.w 3 1 l] [.w 0, .i n] Q :=
 zav zcv Tryz.func197 (by kernel_rfl) (H := ⟨[((197, 2, 1), ⟨[(5, .I)], []⟩)], [], [], [], [], false, 64, KN.no, false, SP.no⟩) (n := 2) (by kernel_rfl) hh
theorem S104 {n : Int} {needs : List (List U)} {Q : V → Mem → Prop} (hh : PRun Tryz.prog 196 [] [.i n, .l 2 needs] (post [.B] [] (fun b1 => (bif !b1 then Q (.t [.l 1 [], .i 1]) [] else ∃ (I1 : List (List U) → Prop) (f1 : List (List U) → Nat), I1 [] ∧ (∀ l1 : List (List U), I1 l1 → (bif decide ((List.length l1 : Int) < n) then ∃ (I2 : Int → Int → Prop) (f2 : Int → Int → Nat), I2 0 n ∧ (∀ x1 : Int, ∀ x2 : Int, I2 x1 x2 → (bif decide (x2 ≥ 1) then PRun Tryz.prog 197 [.w 3 1 l1] [.w 0, .i x2] (post [.B] [.row 3 1] (fun b2 l2 => ((.w 3 1 l2 : AB) = .w 3 1 l1 ∧ (∃ (I3 : Bool → Int → Prop) (f3 : Bool → Int → Nat), I3 (!b2) 0 ∧ (∀ b3 : Bool, ∀ x3 : Int, I3 b3 x3 → (bif decide (x3 < (List.length needs : Int)) then (bif b3 then elL needs x3 (fun r1 => dI .i64 (ug r1 0) (fun x4 => (bif x4 != x2 then I3 true (IntKind.wrap .i64 (x3 + 1)) ∧ f3 true (IntKind.wrap .i64 (x3 + 1)) < f3 b3 x3 else elL needs x3 (fun r2 => dI .i64 (ug r2 1) (fun x5 => PRun Tryz.prog 197 [.w 3 1 l2] [.w 0, .i x5] (post [.B] [.row 3 1] (fun b4 l3 => ((.w 3 1 l3 : AB) = .w 3 1 l2 ∧ (I3 b4 (IntKind.wrap .i64 (x3 + 1)) ∧ f3 b4 (IntKind.wrap .i64 (x3 + 1)) < f3 b3 x3) : Prop)))))))) else I3 false (IntKind.wrap .i64 (x3 + 1)) ∧ f3 false (IntKind.wrap .i64 (x3 + 1)) < f3 b3 x3) else (bif b3 then I2 x2 (IntKind.wrap .i64 (x2 - 1)) ∧ f2 x2 (IntKind.wrap .i64 (x2 - 1)) < f2 x1 x2 else I2 x1 (IntKind.wrap .i64 (x2 - 1)) ∧ f2 x1 (IntKind.wrap .i64 (x2 - 1)) < f2 x1 x2)))) : Prop))) else (bif x1 == 0 then Q (.t [.l 1 [], .i 9]) [] else zet l1 [[.n x1]] ∧ (I1 (l1 ++ [[.n x1]]) ∧ f1 (l1 ++ [[.n x1]]) < f1 l1)))) else Q (.t [.l 1 l1, .i 0]) [])) : Prop)))) : PRun Tryz.prog 104 [] [.i n, .l 2 needs] Q :=
 zav zcv Tryz.func104 (by kernel_rfl) (H := ⟨[((104, 4, 0), ⟨[(6, .one (.ow 3 1))], []⟩), ((104, 7, 1), ⟨[(7, .I), (8, .I)], []⟩), ((104, 11, 1), ⟨[(9, .B), (10, .I)], []⟩)], [], [], [197], [], false, 64, KN.no, false, SP.no⟩) (n := 2) (by kernel_rfl) hh
theorem S174 {n : Int} {from0 : Int} {to0 : Int} {Q : V → Mem → Prop} (hh : bif decide (n ≥ from0) then Q (.u (.b (decide (n ≤ to0)))) [] else Q (.u (.b false)) []) : PRun Tryz.prog 174 [] [.i n, .i from0, .i to0] Q :=
 zav zcv Tryz.func174 (by kernel_rfl) (H := ⟨[], [], [], [], [], false, 64, KN.no, false, SP.no⟩) (n := 2) (by kernel_rfl) hh
theorem S237 {l : List (List U)} {Q : V → Mem → Prop} (hh : ∃ (I1 : Int → Prop) (f1 : Int → Nat), I1 0 ∧ (∀ x1 : Int, I1 x1 → (bif decide (x1 < (List.length l : Int)) then elL l x1 (fun r1 => dI .i64 (ug r1 0) (fun x2 => dI .i64 (ug r1 1) (fun x3 => dI .i64 (ug r1 2) (fun x4 => (bif decide (x2 < x3) then Q (.u (.b false)) [] else (bif decide (x2 > x4) then Q (.u (.b false)) [] else I1 (IntKind.wrap .i64 (x1 + 1)) ∧ f1 (IntKind.wrap .i64 (x1 + 1)) < f1 x1)))))) else Q (.u (.b true)) []))) : PRun Tryz.prog 237 [] [.l 3 l] Q :=
 zav zcv Tryz.func237 (by kernel_rfl) (H := ⟨[((237, 2, 0), ⟨[(7, .I)], []⟩)], [], [], [], [], false, 64, KN.no, false, SP.no⟩) (n := 2) (by kernel_rfl) hh
theorem S176 {b_0 : Int} {b_1 : Int} {b_2 : Int} {b_3 : List (List U)} {b_4 : Int} {b_5 : Int} {b_6 : Int} {types : Int} {Q : V → Mem → Prop} (hh : PRun Tryz.prog 237 [] [.l 3 [[.n types, .n 0, .n 32], [.n b_0, .n 1, .n types], [.n b_1, .n 1, .n 1048576], [.n b_2, .n 1, .n 1048576], [.n b_4, .n 0, .n 1048576], [.n b_5, .n 0, .n 1048576], [.n b_6, .n 1, .n 1000]]] (post [.B] [] (fun b1 => (bif !b1 then Q (.i 1) [] else PRun Tryz.prog 254 [] [.l 2 b_3, .i types] (post [.I] [] (fun x1 => (bif x1 != 0 then Q (.i 1) [] else PRun Tryz.prog 68 [] [.l 2 b_3, .i b_0] (post [.I] [] (fun x2 => (bif decide (x2 > 0) then Q (.i 1) [] else Q (.i 0) [] : Prop))) : Prop))) : Prop)))) : PRun Tryz.prog 176 [] [.a [.i b_0, .i b_1, .i b_2, .l 2 b_3, .i b_4, .i b_5, .i b_6], .i types] Q :=
 zav zcv Tryz.func176 (by kernel_rfl) (H := ⟨[], [], [], [], [], false, 64, KN.no, false, SP.no⟩) (n := 2) (by kernel_rfl) hh
theorem S33 {b_0 : Int} {b_1 : Int} {b_2 : Int} {b_3 : List (List U)} {b_4 : Int} {b_5 : Int} {b_6 : Int} {types : Int} {Q : V → Mem → Prop} (hh : PRun Tryz.prog 101 [] [.i types, .i 0, .i 32] (post [.B] [] (fun b1 => (bif !b1 then Q (.i 1) [] else PRun Tryz.prog 101 [] [.i b_0, .i 1, .i types] (post [.B] [] (fun b2 => (bif !b2 then Q (.i 1) [] else PRun Tryz.prog 101 [] [.i b_1, .i 1, .i 1048576] (post [.B] [] (fun b3 => (bif !b3 then Q (.i 1) [] else PRun Tryz.prog 101 [] [.i b_2, .i 1, .i 1048576] (post [.B] [] (fun b4 => (bif !b4 then Q (.i 1) [] else PRun Tryz.prog 101 [] [.i b_4, .i 0, .i 1048576] (post [.B] [] (fun b5 => (bif !b5 then Q (.i 1) [] else PRun Tryz.prog 101 [] [.i b_5, .i 0, .i 1048576] (post [.B] [] (fun b6 => (bif !b6 then Q (.i 1) [] else PRun Tryz.prog 101 [] [.i b_6, .i 1, .i 1000] (post [.B] [] (fun b7 => (bif !b7 then Q (.i 1) [] else PRun Tryz.prog 102 [] [.l 2 b_3, .i types] (post [.I] [] (fun x1 => (bif x1 != 0 then Q (.i 1) [] else PRun Tryz.prog 103 [] [.l 2 b_3, .i b_0] (post [.I] [] (fun x2 => (bif decide (x2 > 0) then Q (.i 1) [] else Q (.i 0) [] : Prop))) : Prop))) : Prop))) : Prop))) : Prop))) : Prop))) : Prop))) : Prop))) : Prop)))) : PRun Tryz.prog 33 [] [.a [.i b_0, .i b_1, .i b_2, .l 2 b_3, .i b_4, .i b_5, .i b_6], .i types] Q :=
 zav zcv Tryz.func33 (by kernel_rfl) (H := ⟨[], [], [], [], [], false, 64, KN.no, false, SP.no⟩) (n := 2) (by kernel_rfl) hh
end
section
variable {Q : V → Mem → Prop}
def eS (x : Stk) : List U := [.n x.1, .n x.2]
abbrev Bnd := Int × Int × Int
def eF (x : Bnd) : List U := [.n x.1, .n x.2.1, .n x.2.2]
def inn (n a b : Int) : Bool := decide (a ≤ n ∧ n ≤ b)
theorem inn_iff {n a b : Int} : inn n a b = true ↔ a ≤ n ∧ n ≤ b := by simp [inn]
theorem inn_c {n a b : Int} (k : Q (.u (.b (inn n a b))) []) : bif decide (n ≥ a) then Q (.u (.b (decide (n ≤ b)))) [] else Q (.u (.b false)) [] := by
 refine cIf (fun h1 => ?_) fun h1 => ?_
 · have : inn n a b = decide (n ≤ b) := by unfold inn; simp [show a ≤ n from h1]
   rwa [← this]
 · have : inn n a b = false := by unfold inn; simp [show ¬ a ≤ n from h1]
   rwa [← this]
section
variable {n a b : Int}
theorem in2_S (k : Q (.u (.b (inn n a b))) []) : PRun Tryz.prog 174 [] [.i n, .i a, .i b] Q := S174 (inn_c k)
theorem in3_S (k : Q (.u (.b (inn n a b))) []) : PRun Tryz.prog 101 [] [.i n, .i a, .i b] Q := S101 (inn_c k)
theorem in4_S (k : Q (.u (.b (inn n a b))) []) : PRun Tryz.prog 31 [] [.i n, .i a, .i b] Q := S31 (inn_c k)
end
def inAll (l : List Bnd) : Bool := l.all fun x => inn x.1 x.2.1 x.2.2
theorem fits_S {L : List Bnd} (hL : L.length ≤ 1000000) (k : Q (.u (.b (inAll L))) []) : PRun Tryz.prog 237 [] [.l 3 (L.map eF)] Q := by
 refine S237 ⟨SufI L fun l => Q (.u (.b (inAll l))) [], zfa L, .zero (by omega) k, ?_⟩
 rintro x ⟨_ | ⟨a, l⟩, s, k⟩
 · rw [s.d0]; exact k
 · simp only [s.d1, s.el, eF, ug0, ugs, ze6, cond_true]
   rw [show inAll (a :: l) = (inn a.1 a.2.1 a.2.2 && inAll l) from rfl] at k
   refine cIf (fun h1 => ?_) fun h1 => cIf (fun h2 => ?_) fun h2 => s.step ?_
   iterate 2 rwa [show inn a.1 a.2.1 a.2.2 = false from decide_eq_false (by omega)] at k
   rwa [show inn a.1 a.2.1 a.2.2 = true from decide_eq_true (by omega)] at k
def chkL (types : Int) : Int → List Stk → Bool
 | _, [] => true
 | last, s :: l => decide (last < s.1 ∧ s.1 ≤ types ∧ 1 ≤ s.2 ∧ s.2 ≤ 1125899906842624) && chkL types s.1 l
def chkE (l : List Stk) (types : Int) : Int := if chkL types 0 l = true ∧ l.length ≤ 8 then 0 else 1
theorem pCheck_S {L : List Stk} {types : Int} (hL : L.length ≤ 1000000) (k : Q (.i (chkE L types)) []) : PRun Tryz.prog 254 [] [.l 2 (L.map eS), .i types] Q := by
 refine S254 ⟨fun last x => SufI L (fun l => chkL types 0 L = chkL types last l) x, fun _ => zfa L, .zero (by omega) rfl, ?_⟩
 rintro last x ⟨_ | ⟨a, l⟩, s, k2⟩
 · rw [s.d0, List.length_map]
   refine cIf (fun h => ?_) fun h => ?_
   · simpa [chkE, show ¬ L.length ≤ 8 by omega] using k
   · simpa [chkE, k2, chkL, show L.length ≤ 8 by omega] using k
 · simp only [s.d1, s.el, eS, ug0, ugs, ze6, cond_true]
   have bad : chkL types last (a :: l) = false → Q (.i 1) [] := fun h => by simpa [chkE, k2, h] using k
   refine cIf (fun h => ?_) fun h1 => cIf (fun h => ?_) fun h2 => cIf (fun h => ?_) fun h3 => cIf (fun h => ?_) fun h4 => s.step ?_
   iterate 4 exact bad (by simp only [chkL, Bool.and_eq_false_iff, decide_eq_false_iff_not]; omega)
   rw [k2, chkL, decide_eq_true (by omega), Bool.true_and]
end
section
variable {Q : V → Mem → Prop}
theorem apOk_l {a b : List (List U)} (h : a.length + b.length ≤ 1000000) : zet a b := h
theorem refNorm_S {L : List Stk} (hr : rng L) (hL : L.length ≤ 100000) (k : ∀ r e, NormP L e r → Q (.t [.l 2 (r.map eS), .i e]) []) : PRun Tryz.prog 195 [] [.l 2 (L.map eS)] Q := by
 refine S195 ⟨AtI L fun t _ => good t, zfa L, .zero (by omega) (by intro s hs; cases hs), ?_⟩
 rintro x ⟨t, _ | ⟨a, l⟩, s, hg⟩
 case cons =>
  simp only [s.d1, s.el, eS, ug0, ugs, ze6, cond_true]
  have bad : ¬ good L → Q (.t [.l 2 [], .i 1]) [] := fun h => k [] 1 ⟨(zpz h).symm, by simp, fun _ => rfl⟩
  have ha : a ∈ L := by rw [s.e]; simp
  refine cIf (fun h => bad fun hgl => ?_) fun h1 => cIf (fun h => bad fun hgl => ?_) fun h2 => s.step ?_
  iterate 2 have := hgl a ha; omega
  exact good_append.2 ⟨hg, fun u hu => by simp at hu; subst hu; omega⟩
 have hg : good L := by rwa [s.all] at hg
 rw [s.d0]
 refine ⟨fun q x => ∃ r, q = r.map eS ∧ RefN L r x, fun _ x => (L.filter (fun s => decide (x < s.1))).length, ⟨[], rfl, .start hg⟩, ?_⟩
 rintro _ x ⟨r, rfl, inv⟩
 have hlen := inv.len
 have hpos := inv.pos
 refine ⟨fun y z => AtI L (fun t _ => LeastT t x y) z, fun _ => zfa L, .zero (by omega) (.start x), ?_⟩
 rintro y z ⟨t, _ | ⟨a, l⟩, s, hy⟩
 case cons =>
  simp only [s.d1, s.el, eS, ug0, ugs, ze6, cond_true]
  refine cIf (fun hb => cEq (fun h0 => s.step ?_) fun h0 => cIf (fun hb2 => s.step (hy.less h0 hb hb2)) fun hb2 => s.step (hy.more h0 (by omega))) fun hb => s.step (hy.low (by omega))
  subst h0; exact hy.first hpos hb
 rw [s.all] at hy
 rw [s.d0]
 refine cEq (fun h0 => ?_) (fun h0 => ?_)
 · subst h0
   obtain ⟨h1, h2⟩ := inv.stop hy
   exact k r 0 ⟨(zix hg h2).symm, fun _ => h1, fun h => absurd rfl h⟩
 have hM : zha = 1125899906842624 := rfl
 refine ⟨fun q z => AtI L (fun t _ => q = tot t y ∧ q ≤ zha) z, fun _ => zfa L, .zero (by omega) ⟨rfl, by decide⟩, ?_⟩
 rintro _ z ⟨t, _ | ⟨a, l⟩, s, rfl, ht⟩
 case cons =>
  have hgt : good t := fun u hu => hg u (by rw [s.e]; simp [hu])
  have ht0 := zbt hgt y
  have ha : a ∈ L := by rw [s.e]; simp
  have hga := hg a ha
  have hra := hr a ha
  simp only [s.d1, s.el, eS, ug0, ugs, ze6, cond_true]
  have hsn : tot (t ++ [a]) y = tot t y + if a.1 = y then a.2 else 0 := tot_snoc ..
  rw [w64 (x := 1125899906842624 - tot t y) (by omega) (by omega)]
  refine cEq (fun he => ?_) (fun he => ?_)
  · rw [if_pos he] at hsn
    refine cIf (fun ho => ?_) (fun ho => ?_)
    · refine k [] 5 ⟨(zft hg ⟨a, ha, ?_⟩).symm, by simp, fun _ => rfl⟩
      rw [he, s.e, show t ++ a :: l = (t ++ [a]) ++ l by simp, zdd, hsn]
      have := zbt (l := l) (fun u hu => hg u (by rw [s.e]; simp [hu])) y
      omega
    · rw [w64 (x := tot t y + a.2) (by omega) (by omega)]
      exact s.step ⟨hsn.symm, by omega⟩
  · rw [if_neg he, Int.add_zero] at hsn
    exact s.step ⟨hsn.symm, ht⟩
 rw [s.all] at ht ⊢
 rw [s.d0]
 have hstep := inv.step hg h0 hy ht
 have hdec : (L.filter (fun s => decide (y < s.1))).length < (L.filter (fun s => decide (x < s.1))).length := by
  rcases hy with ⟨h, -⟩ | ⟨ha, hb, -⟩
  · exact absurd h h0
  · exact filter_lt ha hb
 refine cIf (fun hp => ?_) (fun hp => ?_)
 · rw [if_pos hp] at hstep
   exact ⟨apOk_l (by simp; omega), ⟨_, by rw [List.map_append]; rfl, hstep⟩, hdec⟩
 · rw [if_neg hp] at hstep
   exact ⟨⟨r, rfl, hstep⟩, hdec⟩
end
section
attribute [local irreducible] ze5 zjx delK zov zfp zjq zdj zgx zcw zbe zb0 zcp
def CountR (h : zab) (l : List Stk) (k : Int) (v : Value) (h' : zab) : Prop := ∃ x : Int, v = .int .i64 x ∧ zg8 h h' ∧ x = if errN l = 0 then tot l k else 0
theorem count_spec {h : zab} {a : Option Addr} {n c : Nat} {l : List Stk} (s : Sl h a n c l) (hr : rng l) (hn : n ≤ 1000) (k : Int) : Run Tryz.prog 68 [.slice a n c, .int .i64 k] h (CountR h l k) := by
 refine V68 _ _ _ _ _ _ ?_
 unfold VC68
 refine (ze4 s hr hn).mono ?_
 rintro v h1 ⟨r, m, e, rfl, hm, k1, -, he, h0, h1'⟩
 refine ⟨_, _, rfl, ?_⟩
 refine cNe (fun hz => ⟨0, rfl, k1, by rw [if_neg (he ▸ hz)]⟩) fun hz => ?_
 obtain ⟨hcm, -⟩ := h0 hz
 refine lookM hm fun _ => ⟨_, rfl, _, rfl, k1, ?_⟩
 rw [if_pos (he ▸ hz), hcm.tots]
noncomputable def cntN (l : List Stk) (k : Int) : Int := if errN l = 0 then tot l k else 0
theorem PRun.keep {P : Program} {g : FuncId} {args : List V} {Q : V → Mem → Prop}
 (hh : ∀ (D : Fz) (C : List zac) (h : zab) (vs : List Value), St D C h → RpL D [] vs args → Run P g vs h fun v h' => zg8 h h' ∧ ∃ x, Rp D [] v x ∧ Q x []) : PRun P g [] args Q := by
 intro D ρ chs C h vs M F
 have h1 : ρ = [] := List.eq_nil_of_length_eq_zero M.len
 have h2 : chs = [] := List.eq_nil_of_length_eq_zero M.lch
 subst h1; subst h2
 refine (hh D C h vs (by simpa using M.st) F).mono ?_
 rintro v h' ⟨k, x, hx, hQ⟩
 exact ⟨D, [], [], x, [], .refl _, ⟨rfl, rfl, fun i L ab ch h => (by simp at h), by simpa using (show St D C h by simpa using M.st).keep k⟩, hx, hQ⟩
theorem RpL.two {D : Fz} {ρ : List Loc} {vs : List Value} {x y : V} (h : RpL D ρ vs [x, y]) : ∃ v w, vs = [v, w] ∧ Rp D ρ v x ∧ Rp D ρ w y := by
 cases h with | cons a b => cases b with | cons b c => cases c; exact ⟨_, _, rfl, a, b⟩
theorem Rp.u_inv {D : Fz} {ρ : List Loc} {v : Value} {x : U} (h : Rp D ρ v (.u x)) : Rd D v x := by cases h; assumption
theorem Rd.sl {D : Fz} {C : List zac} {h : zab} {v : Value} {L : List Stk} (hx : Rd D v (.l 2 (L.map eS))) (S : St D C h) : ∃ a c, v = .slice a L.length c ∧ Sl h a L.length c L := by
 obtain ⟨a, c, rfl, hle, -⟩ := hx.shape
 have hs := (hx.src S).2
 rw [List.length_map] at hle ⊢
 refine ⟨a, c, rfl, rfl, hle, fun i x hi => ?_⟩
 have hr : (L.map eS)[i]? = some (eS x) := by simp [hi]
 rcases hs with h0 | ⟨b, o, w, rfl, hc⟩
 · rw [h0] at hr; simp at hr
 refine ⟨b, o, rfl, fun j v hv => ?_⟩
 match j, hv with
 | 0, hv => simp [zh7] at hv; subst hv; obtain ⟨h1, h2⟩ := hc i 0 _ _ hr rfl; rw [Rd.int_iff.1 h2] at h1; exact h1
 | 1, hv => simp [zh7] at hv; subst hv; obtain ⟨h1, h2⟩ := hc i 1 _ _ hr rfl; rw [Rd.int_iff.1 h2] at h1; exact h1
theorem pCount_S {Q : V → Mem → Prop} {L : List Stk} {x : Int} (hr : rng L) (hL : L.length ≤ 1000) (k : Q (.i (cntN L x)) []) : PRun Tryz.prog 68 [] [.l 2 (L.map eS), .i x] Q := by
 refine .keep fun D C h vs S F => ?_
 obtain ⟨v, w, rfl, h1, h2⟩ := F.two
 obtain ⟨a, c, rfl, s⟩ := h1.u_inv.sl S
 rw [Rd.int_iff.1 h2.u_inv]
 refine (count_spec s hr hL x).mono ?_
 rintro v h' ⟨y, rfl, hk, rfl⟩
 exact ⟨hk, _, .u (.int .i64 _), k⟩
end
section
variable {Q : V → Mem → Prop}
theorem same_S {A B : List Stk} (hA : A.length ≤ 1000000) (hB : B.length ≤ 1000000) (k : Q (.u (.b (decide (A = B)))) []) : PRun Tryz.prog 28 [] [.l 2 (A.map eS), .l 2 (B.map eS)] Q := by
 refine S28 (cNe (fun h => ?_) fun h => ⟨fun x => ∃ t la lb, At A x t la ∧ At B x t lb, zfa A, ⟨[], A, B, .zero (by omega), .zero (by omega)⟩, ?_⟩)
 · have : A ≠ B := by rintro rfl; exact h rfl
   rwa [decide_eq_false this] at k
 simp only [List.length_map] at h
 rintro x ⟨t, _ | ⟨a, la⟩, lb, s1, s2⟩
 · have h1 := congrArg List.length s1.e
   have h2 := congrArg List.length s2.e
   simp at h1 h2
   have : lb = [] := List.eq_nil_of_length_eq_zero (by omega)
   subst this
   rw [s1.d0, decide_eq_true (s1.all.symm.trans s2.all)] at *
   exact k
 · have h1 := congrArg List.length s1.e
   have h2 := congrArg List.length s2.e
   simp at h1 h2
   rcases lb with _ | ⟨b, lb⟩
   · simp at h2; omega
   simp only [s1.d1, s2.d1, s1.el, s2.el, eS, ug0, ugs, ze6, cond_true, Bool.and_true]
   obtain ⟨a1, a2⟩ := a
   obtain ⟨b1, b2⟩ := b
   refine zjm (cB (fun he => ?_) fun he => ?_)
   · simp at he
     obtain ⟨rfl, rfl⟩ := he
     rw [s1.suf.wr]
     exact ⟨⟨_, _, _, s1.succ, s2.succ⟩, s1.suf.me⟩
   · have : A ≠ B := by
      rw [s1.e, s2.e]
      intro e
      simp at e
      simp [e] at he
     rwa [decide_eq_false this] at k
theorem SN.lenW {l r : List Stk} (h : SN l r) : r.length ≤ l.length := by
 have hnd : (r.map (·.1)).Nodup := List.pairwise_map.2 (h.1.imp fun hh => by omega)
 have : ∀ x ∈ r.map (·.1), x ∈ l.map (·.1) := fun x hx => by
  obtain ⟨p, hp, rfl⟩ := List.mem_map.1 hx
  obtain ⟨s, hs, e⟩ := zb9 (l := l) (k := p.1) (by have := (h.2 p.1 p.2).1 hp; omega)
  exact List.mem_map.2 ⟨s, hs, e⟩
 have := hnd.length_le_of_subset this
 simpa using this
theorem NormP.lenW {l r : List Stk} {e : Int} (h : NormP l e r) : r.length ≤ l.length := by
 by_cases h0 : e = 0
 · exact (h.2.1 h0).lenW
 · rw [h.2.2 h0]; simp
theorem rCount_S {L : List Stk} {x : Int} (hr : rng L) (hL : L.length ≤ 1000) (k : Q (.i (cntN L x)) []) : PRun Tryz.prog 103 [] [.l 2 (L.map eS), .i x] Q := by
 refine S103 (refNorm_S hr (by omega) fun r e hN => ?_)
 rw [zlp]
 have hlen := hN.lenW
 have hc : (∀ u ∈ r, u.1 ≠ x) → cntN L x = 0 := fun h => by
  unfold cntN
  split
  · rename_i he
    have hsn := hN.2.1 (hN.1.trans he)
    refine Decidable.byContradiction fun hne => ?_
    have hg := zbt (errN_zero.1 he).1 x
    exact h _ ((hsn.2 x (tot L x)).2 ⟨rfl, by omega⟩) rfl
  · rfl
 refine ⟨AtI r fun t _ => ∀ u ∈ t, u.1 ≠ x, zfa r, .zero (by omega) (by simp), ?_⟩
 rintro z ⟨t, _ | ⟨a, l⟩, s, ht⟩
 · rw [s.all] at ht
   rw [s.d0]
   rwa [hc ht] at k
 · simp only [s.d1, s.el, eS, ug0, ugs, ze6, cond_true]
   refine cEq (fun h => ?_) fun h => s.step ?_
   · have he : e = 0 := Decidable.byContradiction fun he => by rw [hN.2.2 he] at s; have := s.e; simp at this
     have hsn := hN.2.1 he
     have := ((hsn.2 a.1 a.2).1 (by rw [s.e]; simp)).1
     rw [show cntN L x = a.2 by unfold cntN; rw [if_pos (hN.1 ▸ he), this, h]] at k
     exact k
   · intro u hu
     rcases List.mem_append.1 hu with hu | hu
     · exact ht u hu
     · simp at hu; subst hu; exact h
structure CheckOK (l : List Stk) (types : Int) : Prop where
 len : l.length ≤ 8
 rise : l.Pairwise (fun a b => a.1 < b.1)
 el : ∀ s ∈ l, 1 ≤ s.1 ∧ s.1 ≤ types ∧ 1 ≤ s.2 ∧ s.2 ≤ zha
theorem chkL_iff {types : Int} : ∀ {l : List Stk} {last : Int}, chkL types last l = true ↔ l.Pairwise (fun a b => a.1 < b.1) ∧ ∀ s ∈ l, last < s.1 ∧ s.1 ≤ types ∧ 1 ≤ s.2 ∧ s.2 ≤ zha
 | [], last => by simp [chkL]
 | a :: l, last => by
   simp only [chkL, Bool.and_eq_true, decide_eq_true_eq, chkL_iff (l := l), List.pairwise_cons, List.mem_cons]
   have hM : zha = 1125899906842624 := rfl
   constructor
   · rintro ⟨h1, h2, h3⟩
     refine ⟨⟨fun b hb => (h3 b hb).1, h2⟩, ?_⟩
     rintro s (rfl | hs)
     · omega
     · have := h3 s hs; omega
   · rintro ⟨⟨h1, h2⟩, h3⟩
     refine ⟨by have := h3 a (.inl rfl); omega, h2, fun s hs => ?_⟩
     have := h3 s (.inr hs)
     have := h1 s hs
     omega
theorem chkE_iff {l : List Stk} {types : Int} : chkE l types = 0 ↔ CheckOK l types := by
 unfold chkE
 constructor
 · intro h
   split at h
   · rename_i hh
     have := chkL_iff.1 hh.1
     exact ⟨hh.2, this.1, fun s hs => by have := this.2 s hs; omega⟩
   · cases h
 · intro h
   rw [if_pos]
   exact ⟨chkL_iff.2 ⟨h.rise, fun s hs => by have := h.el s hs; omega⟩, h.len⟩
theorem chkE_01 (l : List Stk) (types : Int) : chkE l types = 0 ∨ chkE l types = 1 := by unfold chkE; split <;> simp
theorem chkE_one {l : List Stk} {types : Int} (h : ¬ CheckOK l types) : chkE l types = 1 := (chkE_01 l types).resolve_left fun h0 => h (chkE_iff.1 h0)
theorem rise_keysW {r : List Stk} (h : r.Pairwise (fun a b => a.1 < b.1)) : (r.map (·.1)).Nodup := List.pairwise_map.2 (h.imp fun hh => by omega)
theorem CheckOK.sn {l : List Stk} {types : Int} (h : CheckOK l types) : errN l = 0 ∧ SN l l := by
 have hnd := rise_keysW h.rise
 have hg : good l := fun s hs => by have := h.el s hs; omega
 refine ⟨zix hg ?_, h.rise, fun k n => ?_⟩
 · rintro ⟨s, hs, ho⟩
   rw [zd7 hnd hs] at ho
   have := (h.el s hs).2.2.2; omega
 · constructor
   · intro hm
     have := (h.el _ hm).2.2.1
     exact ⟨(zd7 hnd hm).symm, by show 0 < n; simp only at this; omega⟩
   · rintro ⟨h1, h2⟩
     obtain ⟨p, hp, he⟩ := zb9 (l := l) (k := k) (by omega)
     have := zd7 hnd hp
     rw [he] at this
     have hpe : p = (k, n) := by obtain ⟨p1, p2⟩ := p; simp only at he this; subst he; rw [h1, this]
     subst hpe; exact hp
theorem rCheck_S {L : List Stk} {types : Int} (hr : rng L) (hL : L.length ≤ 1000) (k : Q (.i (chkE L types)) []) : PRun Tryz.prog 102 [] [.l 2 (L.map eS), .i types] Q := by
 have bad : ¬ CheckOK L types → Q (.i 1) [] := fun h => by rwa [chkE_one h] at k
 refine S102 (cIf (fun h1 => bad fun h => ?_) fun h1 => refNorm_S hr (by omega) fun r e hN => ?_)
 · have := h.len; simp at h1; omega
 rw [zlp]
 simp only [List.length_map] at h1 ⊢
 have hlen := hN.lenW
 refine cNe (fun hz => bad fun h => hz (hN.1.trans h.sn.1)) fun hz => same_S (by omega) (by omega) ?_
 rw [zau]
 have hsn := hN.2.1 hz
 refine zjm (cIf (fun he => ?_) fun he => bad fun h => he (hsn.unique h.sn.2))
 subst he
 have hg := errN_zero.1 (hN.1 ▸ hz)
 have hel : ∀ u ∈ r, 1 ≤ u.1 ∧ 1 ≤ u.2 ∧ u.2 ≤ zha := fun u hu => by
  have h1 := (hsn.2 u.1 u.2).1 hu
  have h2 := not_over hg.1 hg.2 u.1
  have h3 := (hg.1 u hu).1
  omega
 refine cIf (fun h4 => ?_) fun h4 => ?_
 · have hw : IntKind.wrap .i64 ((r.length : Int) - 1) = r.length - 1 := w64 (by omega) (by omega)
   have hl : r[r.length - 1]? = some r[r.length - 1] := List.getElem?_eq_getElem (by omega)
   rw [hw, zbf (r := eS r[r.length - 1]) (by omega) (by rw [List.getElem?_map, show ((r.length : Int) - 1).toNat = r.length - 1 by omega, hl]; rfl)]
   simp only [eS, ug0, ze6]
   refine cIf (fun h5 => bad fun h => ?_) fun h5 => ?_
   · have := (h.el r[r.length - 1] (by simp)).2.1; omega
   · rwa [chkE_iff.2 ⟨by omega, hsn.1, fun u hu => ?_⟩] at k
     have h6 := hel u hu
     refine ⟨h6.1, ?_, h6.2⟩
     obtain ⟨i, hi, rfl⟩ := List.getElem_of_mem hu
     by_cases hin : i = r.length - 1
     · subst hin; omega
     · have := List.pairwise_iff_getElem.1 hsn.1 i (r.length - 1) hi (by omega) (by omega)
       omega
 · have : r = [] := List.eq_nil_of_length_eq_zero (by omega)
   subst this
   rwa [chkE_iff.2 ⟨by simp, .nil, by simp⟩] at k
end
section
set_option maxRecDepth 100000
end
section
attribute [local irreducible] ze5 zjx delK zov zfp zjq zdj zgx zcw zbe zb0 zcp
variable {P : Program} {D D' : Fz} {C : List zac} {h h' : zab}
section
variable {α : Type} {e : α → List U} {T E sz : Nat}
theorem rows_len (he : ∀ x, (e x).length = sz) (l : List α) : ∀ r ∈ l.map e, r.length = sz := by
 intro r hr; obtain ⟨t, -, rfl⟩ := List.mem_map.1 hr; exact he t
theorem app_e {a a2 : Option Addr} {c m n cx : Nat} {r r2 : List α} {ch : zac} {K : Value → zab → Prop} (ty : ElTy P T E sz) (own : Own D E sz a c (r.map e) ch) (S : St D (ch :: C) h) (src : Src D h sz a2 (r2.map e)) (hn : n = r.length) (hm : m = r2.length) (hb : r.length + r2.length ≤ 1000000)
 (hK : ∀ a' c' ch' h', Own D E sz a' c' ((r ++ r2).map e) ch' → St D (ch' :: C) h' → K (.slice a' (r ++ r2).length c') h') : ze5 P #[T, T] T (.slice a n c) (.slice a2 m cx) h K := by
 obtain ⟨hT, i, z, hi, hsz, hby, hby2, hz, hzs⟩ := ty
 subst hm hn
 by_cases hr2 : r2 = []
 · subst hr2
   refine zf2 (E := E) hT hi (by simpa using own.len) ?_
   simpa using hK a c ch h (by simpa using own) S
 subst hsz
 have hl : r.length = (r.map e).length := by simp
 rw [hl]
 have hbd : (2 * ((r.map e).length + (r2.map e).length) + 512) * i.bytes ≤ 281474976710656 := by
  simp only [List.length_map]
  have := Nat.mul_le_mul (show 2 * (r.length + r2.length) + 512 ≤ 2000512 by omega) hby2
  omega
 refine Own.app own S hT hi hz hzs hby src (by simp) hbd (by simpa using hr2) fun a' c' ch' h' own' S' => ?_
 rw [← List.map_append] at own'
 rw [← List.map_append, List.length_map]
 exact hK a' c' ch' h' own' S'
end
def fstI {α : Type} (p : α → Bool) : List α → Nat → Int
 | [], _ => -1
 | x :: l, k => if p x = true then k else fstI p l (k + 1)
theorem callV_1 {P : Program} {g : FuncId} {args : List Value} {c : Value} {h : zab} {R : Value → zab → Prop} (hr : Run P g (args ++ [c]) h R) : zie P (.func (.func g) #[] #[c]) args h R := by
 unfold zie
 simpa using hr
theorem zoo {P : Program} {f : Value} {args : List Value} {h : zab} {R R' : Value → zab → Prop} (hh : zie P f args h R) (k : ∀ v h', R v h' → R' v h') : zie P f args h R' := by
 unfold zie at hh ⊢
 split at hh
 · exact hh.mono k
 · exact hh.elim
def eI (x : Int) : List U := [.n x]
theorem eI1 (x : Int) : (eI x).length = 1 := rfl
theorem rd_I {vs : List Value} {x : Int} : RdL D vs (eI x) ↔ vs = [.int .i64 x] := by
 simp only [eI, RdL.cons_iff, RdL.nil_iff, Rd.int_iff]
 constructor
 · rintro ⟨_, _, rfl, rfl, rfl⟩; rfl
 · rintro rfl; exact ⟨_, _, rfl, rfl, rfl⟩
theorem own_I {T : TypeId} {a : Option Addr} {c : Nat} {L : List Int} {ch : zac} (hx : Own D T 1 a c (L.map eI) ch) (S : St D (ch :: C) h) {z : Int} {i : Nat} (hz : z = i) {t : Int} (hi : L[i]? = some t) {K : Nat → Nat → Prop}
 (hK : ∀ b o, hcell h ⟨b, o + z.toNat * 1, none⟩ = some (.int .i64 t) → K b o) : zbj a K :=
 hx.at S hz (r := eI t) (by simp [hi]) fun b o vs hv hc => by
  rw [rd_I] at hv; subst hv
  exact hK b o (hc 0 (by omega))
theorem eyI : ElTy Tryz.prog 111 3 1 := .of (by kernel_rfl)
def minI : Int → List Int → Int
 | m, [] => m
 | m, x :: l => minI (if x < m then x else m) l
theorem minI_mem : ∀ (l : List Int) (m : Int), minI m l = m ∨ minI m l ∈ l
 | [], m => .inl rfl
 | x :: l, m => by
   simp only [minI, List.mem_cons]
   rcases minI_mem l (if x < m then x else m) with h | h
   · rw [h]; split <;> simp
   · exact .inr (.inr h)
theorem minI_le : ∀ (l : List Int) (m : Int), minI m l ≤ m ∧ ∀ y ∈ l, minI m l ≤ y
 | [], m => ⟨Int.le_refl _, by simp⟩
 | x :: l, m => by
   have := minI_le l (if x < m then x else m)
   simp only [minI, List.mem_cons, forall_eq_or_imp]
   refine ⟨?_, ?_, this.2⟩
   · have h := this.1; split at h <;> omega
   · have h := this.1; split at h <;> omega
theorem min_spec {T : TypeId} {a : Option Addr} {c : Nat} {x : Int} {l : List Int} {ch : zac} (own : Own D T 1 a c ((x :: l).map eI) ch) (S : St D (ch :: C) h) (hn : l.length ≤ 1000) :
 Run Tryz.prog 303 [.slice a (l.length + 1) c] h fun v h' => v = .int .i64 (minI x l) ∧ h' = h := by
 refine V303 _ _ _ _ _ ?_
 unfold VC303
 refine cIf (fun h => by omega) fun _ => ?_
 refine own_I own S (z := 0) (i := 0) rfl rfl fun b o c0 => ⟨by decide, by omega, _, c0, ?_⟩
 refine ⟨fun m z h' => ∃ i : Nat, z = i ∧ 1 ≤ i ∧ i ≤ l.length + 1 ∧ minI x l = minI m (l.drop (i - 1)) ∧ h' = h, fun _ z _ => l.length + 1 - z.toNat, ⟨1, rfl, by omega, by omega, rfl, rfl⟩, ?_⟩
 rintro - h1 m z ⟨i, rfl, h1i, hi, he, eh⟩
 obtain rfl : h = h1 := eh.symm
 refine cIf (fun hlt => ?_) fun hge => ?_
 · obtain ⟨j, rfl⟩ : ∃ j, i = j + 1 := ⟨i - 1, by omega⟩
   have hjl : j < l.length := by omega
   rw [Nat.add_sub_cancel, List.drop_eq_getElem_cons hjl] at he
   refine own_I own S rfl (t := l[j]) (by rw [List.getElem?_cons_succ]; exact List.getElem?_eq_getElem hjl) fun b o c0 => ⟨by omega, by omega, _, c0, ?_⟩
   rw [w64n (by omega)]
   exact ⟨⟨j + 2, rfl, by omega, by omega, he, rfl⟩, by simp only [Int.toNat_natCast]; omega⟩
 · have : i = l.length + 1 := by omega
   subst this
   exact ⟨by rw [he]; simp [minI], rfl⟩
end
section
attribute [local irreducible] ze5 zjx delK zov zfp zjq zdj zgx zcw zbe zb0 zcp
variable {P : Program} {D D' : Fz} {C : List zac} {h h' : zab}
theorem indexI_spec {T : TypeId} {a : Option Addr} {c : Nat} {l : List Int} {ch : zac} (own : Own D T 1 a c (l.map eI) ch) (S : St D (ch :: C) h) (hn : l.length ≤ 1000) (p : Int → Bool) (f : Value)
 (hf : ∀ x ∈ l, ∀ h, St D (ch :: C) h → zie Tryz.prog f [.int .i64 x] h fun v h' => v = .bool (p x) ∧ St D (ch :: C) h') :
 Run Tryz.prog 349 [.slice a l.length c, f] h fun v h' => v = .int .i64 (fstI p l 0) ∧ St D (ch :: C) h' := by
 refine V349 _ _ _ _ _ _ ?_
 unfold VC349
 refine ⟨fun z h' => ∃ i : Nat, z = i ∧ i ≤ l.length ∧ fstI p l 0 = fstI p (l.drop i) i ∧ St D (ch :: C) h', fun z _ => l.length - z.toNat, ⟨0, rfl, by omega, rfl, S⟩, ?_⟩
 rintro - h1 z ⟨i, rfl, hi, he, S⟩
 refine cIf (fun hlt => ?_) fun hge => ?_
 · have hil : i < l.length := by omega
   rw [List.drop_eq_getElem_cons hil] at he
   refine own_I own S rfl (List.getElem?_eq_getElem hil) fun b o c0 => ⟨by omega, by omega, _, c0, ?_⟩
   refine zoo (hf _ (List.getElem_mem hil) h1 S) ?_
   rintro v h2 ⟨rfl, S⟩
   refine ⟨_, rfl, cB (fun hp => ?_) fun hp => ?_⟩
   · exact ⟨by rw [he]; simp [fstI, hp], S⟩
   · rw [w64n (by omega)]
     exact ⟨⟨i + 1, rfl, by omega, by rw [he]; simp [fstI, hp], S⟩, by simp only [Int.toNat_natCast]; omega⟩
 · have : i = l.length := by omega
   subst this
   exact ⟨by rw [he]; simp [fstI], S⟩
theorem clearI {P : Program} {T E : TypeId} {i : TypeInfo} {z : Value} {b o n c : Nat} {l : List Value} {e : TypeId} {h : zab} {K : Value → zab → Prop} (hu : P.underlying T = some (.slice E)) (hi : P.info? E = some i) (hz : i.zero = some z) (hzs : z.cells = #[z]) (hs : single z = true)
 (hb : h[b]? = some (.cells l.toArray e (0, 0))) (hl : o + n ≤ l.length)
 (hK : ∀ h', h'[b]? = some (.cells (zar l o (List.replicate n z)).toArray e (0, 0)) → KB [b] h h' → h'.size = h.size → K (.tuple #[]) h') : zjk P #[T] 0 (.slice (some ⟨b, o, none⟩) n c) h K := by
 unfold zjk
 show SWp P (underlying T >>= _) h K
 refine zad (zal hu ?_)
 cases n with
 | zero =>
   show SWp P (pure (Value.tuple #[])) h K
   exact hK h (by simpa [zar] using hb) (.refl _ _) rfl
 | succ n =>
   refine zad (zid hi hz ?_)
   have hzc : (Builtin.zeroCells z.cells (n + 1)).toList = List.replicate (n + 1) z := by
    rw [hzs]
    simp [Builtin.zeroCells]
    apply List.ext_getElem
    · simp
    · intro i h1 h2
      simp [Nat.mod_one]
   rw [hzc]
   refine zad (zd6 hb (by simpa using hl) (fun v hv => by rw [List.eq_of_mem_replicate hv]; exact hs) fun h' h1 k s => ?_)
   exact hK h' h1 k s
theorem put_I {T : TypeId} {a : Option Addr} {c i : Nat} {L : List Int} {ch : zac} (own : Own D T 1 a c (L.map eI) ch) (S : St D (ch :: C) h) {z : Int} (hz : z = i) (hi : i < L.length) (x : Int) {K : Nat → Nat → Prop}
 (hK : ∀ b o, (∀ K' : zab → Prop, (∀ ch' h', Own D T 1 a c ((L.set i x).map eI) ch' → St D (ch' :: C) h' → K' h') → stK h ⟨b, o + z.toNat * 1, none⟩ (.int .i64 x) K') → K b o) : zbj a K := by
 refine own.put S hz (by simpa using hi) (r' := eI x) (vs := [.int .i64 x]) (rd_I.2 rfl) rfl fun b o f => hK b o fun K' k => ?_
 have := f K' fun ch' h' o' S' => k ch' h' (by rw [List.map_set]; exact o') S'
 simp only [zc2, zdw, Nat.add_zero] at this
 exact this
attribute [local irreducible] zjk
theorem clear_I {a : Option Addr} {c i : Nat} {L : List Int} {ch : zac} (own : Own D 3 1 a c (L.map eI) ch) (S : St D (ch :: C) h) (hi : i ≤ L.length) (h0 : L ≠ []) {K : Value → zab → Prop}
 (hK : ∀ ch' h', Own D 3 1 a c ((L.take i).map eI) ch' → St D (ch' :: C) h' → K (.tuple #[]) h') : zjk Tryz.prog #[111] 0 (.slice (slA a c i 1) (zhi L.length i) (zhi c i)) h K := by
 obtain ⟨hT, y, z, hy, hsz, hby, hby2, hz, hzs⟩ := eyI
 have hz0 : z = .int .i64 0 := by
  have : (Tryz.prog.info? 3).map (·.zero) = some (some (.int .i64 0)) := by kernel_rfl
  rw [hy, Option.map_some, hz] at this
  simpa using this
 subst hz0
 generalize hr : L.map eI = rows at own
 cases own with
 | nil => simp at hr; exact absurd hr h0
 | row b c arr rows v h1 h2 h3 h4 h5 =>
   obtain ⟨l⟩ := arr
   subst hr
   have h1' : l.length = c := by simpa using h1
   rw [List.length_map] at h2
   obtain ⟨o, ho, hoi⟩ : ∃ o, slA (some ⟨b, 0, none⟩) c i 1 = some ⟨b, o, none⟩ ∧ o + (L.length - i) ≤ c ∧ (o = i ∨ L.length - i = 0) := by
    unfold slA
    cases i with
    | zero => exact ⟨0, rfl, by omega, .inl rfl⟩
    | succ i =>
      simp only [Nat.beq, cond_false]
      by_cases hc : c = i + 1
      · rw [if_pos hc]; exact ⟨0, rfl, by omega, .inr (by omega)⟩
      · rw [if_neg hc]; exact ⟨i + 1, by simp, by omega, .inl rfl⟩
   rw [ho, zd8, zd8]
   refine clearI hT hy hz rfl rfl (S.get (List.mem_singleton_self _)) (by omega) fun h' hb k s => ?_
   have S' : St D ([(b, .cells ⟨zar l o (List.replicate (L.length - i) (.int .i64 0))⟩ 3 (0, 0))] :: C) h' := S.upd (by simpa using k) (by simpa using hb) (by simp) (by simp)
   refine hK _ h' (.row b c _ _ v (by simp [zas, h1']) (by rw [List.length_map, List.length_take]; omega) (rows_len eI1 _) (fun p q r u hp hq => ?_) fun p q r u hp hq => ?_) S'
   all_goals
    have hpi : p < i := by have := (List.getElem?_eq_some_iff.1 hp).1; rw [List.length_map, List.length_take] at this; omega
    have hp' : (L.map eI)[p]? = some r := by
     rw [List.getElem?_map, List.getElem?_take_of_lt hpi, ← List.getElem?_map] at hp; exact hp
   · have hq1 : q < 1 := by have := (List.getElem?_eq_some_iff.1 hq).1; rwa [h3 r (List.mem_of_getElem? hp')] at this
     have := h4 p q r u hp' hq
     simp only [List.getElem?_toArray] at this ⊢
     rw [za2 _ _ _ _ (by simp; omega)]
     rw [List.length_replicate]
     rcases hoi.2 with e | e
     · rw [if_pos (by omega)]; exact this
     · by_cases hpo : p * 1 + q < o
       · rw [if_pos hpo]; exact this
       · rw [if_neg hpo, if_neg (by omega)]; exact this
   · exact h5 p q r u hp' hq
theorem zok {α : Type} (p : α → Bool) : ∀ (l : List α) (k : Nat), (fstI p l k = -1 ∧ ∀ x ∈ l, p x = false) ∨ ∃ d : Nat, fstI p l k = ((k + d : Nat) : Int) ∧ d < l.length ∧ (∀ x, l[d]? = some x → p x = true) ∧ ∀ x ∈ l.take d, p x = false
 | [], k => .inl ⟨rfl, by simp⟩
 | x :: l, k => by
   simp only [fstI]
   by_cases hp : p x = true
   · rw [if_pos hp]; exact .inr ⟨0, by simp, by simp, by simp [hp], by simp⟩
   · rw [if_neg hp]
     have hp' : p x = false := by simpa using hp
     rcases zok p l (k + 1) with ⟨h1, h2⟩ | ⟨d, h1, h2, h3, h4⟩
     · exact .inl ⟨h1, by simpa [hp'] using h2⟩
     · exact .inr ⟨d + 1, by rw [h1]; congr 1; omega, by simpa using h2, by simpa using h3, by simpa [hp'] using h4⟩
def zjs (p : Int → Bool) (l : List Int) : List Int := l.filter fun x => !p x
theorem keepI_all {p : Int → Bool} {l : List Int} (h : ∀ x ∈ l, p x = false) : zjs p l = l := by
 unfold zjs; rw [List.filter_eq_self]; intro x hx; simp [h x hx]
theorem zoh {p : Int → Bool} {l : List Int} {j : Nat} {x : Int} (h : l[j]? = some x) : zjs p (l.take (j + 1)) = if p x = true then zjs p (l.take j) else zjs p (l.take j) ++ [x] := by
 unfold zjs
 rw [List.take_add_one, h, List.filter_append]
 split <;> simp_all
theorem deleteI_spec {a : Option Addr} {c : Nat} {l : List Int} {ch : zac} (own : Own D 3 1 a c (l.map eI) ch) (S : St D (ch :: C) h) (hn : l.length ≤ 1000) (p : Int → Bool) (f : Value)
 (hf : ∀ x ∈ l, ∀ ch h, St D (ch :: C) h → zie Tryz.prog f [.int .i64 x] h fun v h' => v = .bool (p x) ∧ St D (ch :: C) h') :
 Run Tryz.prog 304 [.slice a l.length c, f] h fun v h' => ∃ ch', v = .slice a (zjs p l).length c ∧ Own D 3 1 a c ((zjs p l).map eI) ch' ∧ St D (ch' :: C) h' := by
 refine V304 _ _ _ _ _ _ ?_
 unfold VC304
 refine (indexI_spec own S hn p f fun x hx h S => hf x hx ch h S).mono ?_
 rintro v h1 ⟨rfl, S⟩
 refine ⟨_, rfl, ?_⟩
 rcases zok p l 0 with ⟨e, hall⟩ | ⟨d, e, hd, hpd, hall⟩
 · rw [e]
   refine cEq (fun _ => ?_) fun h => absurd rfl h
   have hk := keepI_all hall
   exact ⟨ch, by rw [hk], by rw [hk]; exact own, S⟩
 rw [e, Nat.zero_add]
 refine cEq (fun h => by omega) fun _ => ?_
 rw [w64n (by omega)]
 have hlc : l.length ≤ c := by simpa using own.len
 refine ⟨fun x y h' => ∃ (i j : Nat) (r : List Int) (ch : zac), x = i ∧ y = j ∧ i < j ∧ j ≤ l.length ∧ r.length = l.length ∧ r.take i = zjs p (l.take j) ∧ r.drop j = l.drop j ∧ Own D 3 1 a c (r.map eI) ch ∧ St D (ch :: C) h',
  fun _ y _ => l.length - y.toNat, ⟨d, d + 1, l, ch, rfl, rfl, by omega, by omega, rfl, ?_, rfl, own, S⟩, ?_⟩
 · rw [zoh (List.getElem?_eq_getElem hd), if_pos (hpd _ (List.getElem?_eq_getElem hd)), keepI_all hall]
 rintro - h2 x y ⟨i, j, r, ch, rfl, rfl, hij, hj, hr, htk, hdr, own, S⟩
 refine cIf (fun hlt => ?_) fun hge => ?_
 · have hjl : j < l.length := by omega
   have hgj : r[j]? = some l[j] := by
    have : (r.drop j)[0]? = (l.drop j)[0]? := by rw [hdr]
    rw [← List.getElem?_eq_getElem hjl]
    simpa using this
   refine own_I own S rfl hgj fun b o c0 => ⟨by omega, by omega, _, c0, ?_⟩
   refine zoo (hf _ (List.getElem_mem hjl) ch h2 S) ?_
   rintro v h3 ⟨rfl, S⟩
   have hsn := zoh (p := p) (List.getElem?_eq_getElem hjl)
   have hdr1 : r.drop (j + 1) = l.drop (j + 1) := by
    have := congrArg (List.drop 1) hdr
    simpa [List.drop_drop] using this
   refine ⟨_, rfl, zjm (cB (fun hp => ?_) fun hp => ?_)⟩
   · rw [w64n (by omega)]
     exact ⟨⟨i, j + 1, r, ch, rfl, rfl, by omega, by omega, hr, by rw [hsn, if_pos hp]; exact htk, hdr1, own, S⟩, by simp only [Int.toNat_natCast]; omega⟩
   · refine put_I own S rfl (i := i) (by omega) l[j] fun b o k => ⟨by omega, by omega, k _ fun ch' h' own S => ?_⟩
     rw [w64n (by omega), w64n (by omega)]
     refine ⟨⟨i + 1, j + 1, r.set i l[j], ch', rfl, rfl, by omega, by omega, by simpa using hr, ?_, ?_, own, S⟩, by simp only [Int.toNat_natCast]; omega⟩
     · rw [hsn, if_neg (by simp [hp]), ← htk, List.take_add_one, List.getElem?_set_self (by omega), List.take_set_of_le (by omega)]; rfl
     · rw [List.drop_set_of_lt (by omega)]; exact hdr1
 · have : j = l.length := by omega
   subst this
   refine ⟨by omega, by omega, by omega, ?_⟩
   rw [List.take_length] at htk
   simp only [Int.toNat_natCast]
   rw [← hr]
   refine clear_I own S (by omega) (by intro h0; subst h0; simp at hr; omega) fun ch' h' own S => ?_
   rw [htk] at own
   have hi : i = (zjs p l).length := by rw [← htk, List.length_take]; omega
   exact ⟨by omega, by omega, ch', by rw [← hi], own, S⟩
end
section
attribute [local irreducible] ze5 zjx delK zov zfp zjq zdj zgx zcw zbe zb0 zcp
variable {P : Program} {D D' : Fz} {C : List zac} {h h' : zab}
def zc8 {α : Type} (f : Nat → α) (k : Nat) (x : α) : Nat → α := fun j => if j = k then x else f j
theorem zk9 {α : Type} (f : Nat → α) (k : Nat) (x : α) : zc8 f k x k = x := by simp [zc8]
theorem zow {α : Type} (f : Nat → α) {k j : Nat} (x : α) (h : j ≠ k) : zc8 f k x j = f j := by simp [zc8, h]
theorem updF_id {α : Type} (f : Nat → α) (k : Nat) : zc8 f k (f k) = f := by funext j; unfold zc8; split <;> simp_all
abbrev row (N : Nat) (g : Nat → zac) : List zac := (List.range N).map g
theorem zo3 (g : Nat → zac) (k : Nat) (ch : zac) : ∀ N, k < N → (row N (zc8 g k ch)).flatten.Perm (ch ++ (row N (zc8 g k [])).flatten)
 | 0, h => by omega
 | N + 1, h => by
   have hs : ∀ x, (row (N + 1) (zc8 g k x)).flatten = (row N (zc8 g k x)).flatten ++ zc8 g k x N := fun x => by simp [row, List.range_succ]
   rw [hs, hs]
   by_cases hk : k = N
   · subst hk
     have he : ∀ x y, row k (zc8 g k x) = row k (zc8 g k y) := fun x y => List.map_congr_left fun j hj => by
      have := List.mem_range.1 hj
      rw [zow _ _ (by omega), zow _ _ (by omega)]
     rw [zk9, zk9, he ch [], List.append_nil]
     exact List.perm_append_comm
   · rw [zow _ _ (by omega), zow _ _ (by omega), ← List.append_assoc]
     exact (zo3 g k ch N (by omega)).append_right _
theorem St.take {N k : Nat} {g : Nat → zac} {B : zac} (S : St D (B :: (row N g ++ C)) h) (hk : k < N) : St D (g k :: B :: (row N (zc8 g k []) ++ C)) h := by
 refine S.perm ?_
 have := zo3 g k (g k) N hk
 rw [updF_id] at this
 simp only [List.flatten_cons, List.flatten_append]
 refine ((this.append_right C.flatten).append_left B).trans ?_
 rw [List.append_assoc, ← List.append_assoc, ← List.append_assoc (g k)]
 exact List.perm_append_comm.append_right _
theorem St.give {N k : Nat} {g : Nat → zac} {B ch : zac} (S : St D (ch :: B :: (row N (zc8 g k []) ++ C)) h) (hk : k < N) : St D (B :: (row N (zc8 g k ch) ++ C)) h := by
 refine S.perm ?_
 have := (zo3 g k ch N hk).symm
 simp only [List.flatten_cons, List.flatten_append]
 refine List.Perm.trans ?_ ((this.append_right C.flatten).append_left B)
 rw [List.append_assoc, ← List.append_assoc, ← List.append_assoc B]
 exact List.perm_append_comm.append_right _
def zag (P : List Stk) (k : Nat) : List Int := (P.filter fun p => p.1 == (k : Int)).map (·.2)
def zat (P : List Stk) (k : Nat) : List Int := (P.filter fun p => p.2 == (k : Int)).map (·.1)
theorem needsOf_snoc (P : List Stk) (p : Stk) (h : 0 ≤ p.1) : zag (P ++ [p]) = zc8 (zag P) p.1.toNat (zag P p.1.toNat ++ [p.2]) := by
 funext k
 unfold zag zc8
 rw [List.filter_append, List.map_append]
 by_cases hk : k = p.1.toNat
 · subst hk
   rw [if_pos rfl]
   have : (p.1 == ((p.1.toNat : Nat) : Int)) = true := by simp; omega
   rw [List.filter_cons, if_pos this]; rfl
 · rw [if_neg hk]
   have : (p.1 == (k : Int)) = false := by simp; omega
   simp [List.filter_cons, this]
theorem zqw (P : List Stk) (p : Stk) (h : 0 ≤ p.2) : zat (P ++ [p]) = zc8 (zat P) p.2.toNat (zat P p.2.toNat ++ [p.1]) := by
 funext k
 unfold zat zc8
 rw [List.filter_append, List.map_append]
 by_cases hk : k = p.2.toNat
 · subst hk
   rw [if_pos rfl]
   have : (p.2 == ((p.2.toNat : Nat) : Int)) = true := by simp; omega
   rw [List.filter_cons, if_pos this]; rfl
 · rw [if_neg hk]
   have : (p.2 == (k : Int)) = false := by simp; omega
   simp [List.filter_cons, this]
def tab (N : Nat) (f : Nat → Value) : List Value := (List.range N).map f
theorem zbn (N : Nat) (f : Nat → Value) : (tab N f).length = N := by simp [tab]
theorem tab_get {N k : Nat} (f : Nat → Value) (h : k < N) : (tab N f)[k]? = some (f k) := by simp [tab, h]
theorem tab_set {N k : Nat} (f : Nat → Value) (v : Value) : (tab N f).set k v = tab N (zc8 f k v) := by
 apply List.ext_getElem?
 intro j
 unfold tab
 by_cases hj : j < N
 · rw [List.getElem?_set]
   by_cases hk : k = j
   · subst hk; simp [hj, zc8]
   · rw [if_neg hk]; simp [hj, zc8, Ne.symm hk]
 · rw [List.getElem?_eq_none (by simp; omega), List.getElem?_eq_none (by simp; omega)]
def zbq (n : Int) (A B : Nat → Value) (O : Nat → Int) : List Value := .int .i64 n :: (tab 65 A ++ (tab 65 (fun k => .int .i64 (O k)) ++ tab 65 B))
section
variable {n : Int} {A B : Nat → Value} {O : Nat → Int} {k : Nat}
theorem W_len : (zbq n A B O).length = 196 := by simp [zbq, zbn]
theorem W_A (h : k < 65) : (zbq n A B O)[1 + k]? = some (A k) := by
 unfold zbq
 rw [Nat.add_comm, List.getElem?_cons_succ, List.getElem?_append_left (by rw [zbn]; exact h), tab_get _ h]
theorem W_O (h : k < 65) : (zbq n A B O)[66 + k]? = some (.int .i64 (O k)) := by
 unfold zbq
 rw [show 66 + k = (65 + k) + 1 by omega, List.getElem?_cons_succ, List.getElem?_append_right (by rw [zbn]; omega), zbn, Nat.add_sub_cancel_left, List.getElem?_append_left (by rw [zbn]; exact h), tab_get _ h]
theorem W_B (h : k < 65) : (zbq n A B O)[131 + k]? = some (B k) := by
 unfold zbq
 rw [show 131 + k = (65 + (65 + k)) + 1 by omega, List.getElem?_cons_succ, List.getElem?_append_right (by rw [zbn]; omega), zbn, Nat.add_sub_cancel_left, List.getElem?_append_right (by rw [zbn]; omega), zbn, Nat.add_sub_cancel_left, tab_get _ h]
theorem W_setA (h : k < 65) (v : Value) : (zbq n A B O).set (1 + k) v = zbq n (zc8 A k v) B O := by
 unfold zbq
 rw [Nat.add_comm, List.set_cons_succ, List.set_append_left _ _ (by rw [zbn]; exact h), tab_set]
theorem W_setO (h : k < 65) (x : Int) : (zbq n A B O).set (66 + k) (.int .i64 x) = zbq n A B (zc8 O k x) := by
 unfold zbq
 rw [show 66 + k = (65 + k) + 1 by omega, List.set_cons_succ, List.set_append_right _ _ (by rw [zbn]; omega), zbn, Nat.add_sub_cancel_left, List.set_append_left _ _ (by rw [zbn]; exact h), tab_set]
 congr 4
 funext j; unfold zc8; split <;> rfl
theorem W_setB (h : k < 65) (v : Value) : (zbq n A B O).set (131 + k) v = zbq n A (zc8 B k v) O := by
 unfold zbq
 rw [show 131 + k = (65 + (65 + k)) + 1 by omega, List.set_cons_succ, List.set_append_right _ _ (by rw [zbn]; omega), zbn, Nat.add_sub_cancel_left, List.set_append_right _ _ (by rw [zbn]; omega), zbn, Nat.add_sub_cancel_left, tab_set]
end
def Slots (D : Fz) (A : Nat → Value) (f : Nat → List Int) (g : Nat → zac) : Prop := ∀ k, k < 65 → ∃ a c, A k = .slice a (f k).length c ∧ Own D 3 1 a c ((f k).map eI) (g k)
theorem Slots.upd {A : Nat → Value} {f : Nat → List Int} {g : Nat → zac} (s : Slots D A f g) (k : Nat) {a : Option Addr} {c : Nat} {r : List Int} {ch : zac} (o : Own D 3 1 a c (r.map eI) ch) :
 Slots D (zc8 A k (.slice a r.length c)) (zc8 f k r) (zc8 g k ch) := by
 intro j hj
 unfold zc8
 split
 · exact ⟨a, c, rfl, o⟩
 · exact s j hj
def RdW (D : Fz) (A : Nat → Value) (f : Nat → List Int) : Prop := ∀ k, k < 65 → ∃ a c, A k = .slice a (f k).length c ∧ Rd D (.slice a (f k).length c) (.l 1 ((f k).map eI))
theorem Own.rd {T : TypeId} {sz c : Nat} {a : Option Addr} {rows : List (List U)} {ch : zac} (o : Own D T sz a c rows ch) (l : Le D D') (g : ∀ p ∈ ch, D' p.1 = some p.2) : Rd D' (.slice a rows.length c) (.l sz rows) := by
 cases o with
 | nil => exact .nil _ _ _
 | row b c arr rows v h1 h2 h3 h4 h5 =>
   exact .row b 0 c arr T (0, 0) rows sz v (g (b, _) (by simp)) h2 h3 (fun i j r u a b => by rw [Nat.zero_add]; exact h4 i j r u a b) fun i j r u a b => (h5 i j r u a b).mono l
theorem Slots.rd {A : Nat → Value} {f : Nat → List Int} {g : Nat → zac} (s : Slots D A f g) (l : Le D D') (hg : ∀ p ∈ (row 65 g).flatten, D' p.1 = some p.2) : RdW D' A f := by
 intro k hk
 obtain ⟨a, c, e, o⟩ := s k hk
 refine ⟨a, c, e, ?_⟩
 have := o.rd l fun p hp => hg p (List.mem_flatten.2 ⟨g k, List.mem_map.2 ⟨k, List.mem_range.2 hk, rfl⟩, hp⟩)
 rwa [List.length_map] at this
theorem St.swapR {B : zac} {X Y : List zac} (S : St D (B :: (X ++ (Y ++ C))) h) : St D (B :: (Y ++ (X ++ C))) h := by
 refine S.perm ?_
 simp only [List.flatten_cons, List.flatten_append]
 refine List.Perm.append_left B ?_
 rw [← List.append_assoc, ← List.append_assoc]
 exact List.perm_append_comm.append_right _
end
section
attribute [local irreducible] ze5 zjx delK zov zfp zjq zdj zgx zcw zbe zb0 zcp
variable {D D' : Fz} {C : List zac} {h h' : zab} {x W : zac} {X Y : List zac}
theorem St.inn (S : St D (x :: W :: (X ++ (Y ++ C))) h) : St D (W :: (X ++ (Y ++ (x :: C)))) h := by
 refine S.perm ?_
 simp only [List.flatten_cons, List.flatten_append]
 refine List.perm_append_comm_assoc .. |>.trans (List.Perm.append_left W ?_)
 refine List.perm_append_comm_assoc .. |>.trans (List.Perm.append_left _ ?_)
 exact List.perm_append_comm_assoc ..
theorem St.out (S : St D (W :: (X ++ (Y ++ (x :: C)))) h) : St D (x :: W :: (X ++ (Y ++ C))) h := by
 refine S.perm (List.Perm.symm ?_)
 simp only [List.flatten_cons, List.flatten_append]
 refine List.perm_append_comm_assoc .. |>.trans (List.Perm.append_left W ?_)
 refine List.perm_append_comm_assoc .. |>.trans (List.Perm.append_left _ ?_)
 exact List.perm_append_comm_assoc ..
abbrev webC (n : Int) (A B : Nat → Value) (O : Nat → Int) (w : Nat) : zac := [(w, .cells ⟨zbq n A B O⟩ 303 (0, 0))]
def WS (D : Fz) (n : Int) (A B : Nat → Value) (fA fB : Nat → List Int) (O : Nat → Int) (w : Nat) (C : List zac) (h : zab) : Prop :=
 ∃ gA gB, Slots D A fA gA ∧ Slots D B fB gB ∧ St D (webC n A B O w :: (row 65 gA ++ (row 65 gB ++ C))) h
section
variable {n : Int} {A B : Nat → Value} {fA fB : Nat → List Int} {O : Nat → Int} {w k : Nat}
theorem St.behind : ∀ (X : List zac) {C : List zac}, St D (X ++ C) h → St D C h
 | [], _, S => S
 | _ :: X, _, S => St.behind X S.drop
theorem WS.cc (s : WS D n A B fA fB O w C h) : St D C h := by
 obtain ⟨gA, gB, -, -, S⟩ := s
 exact St.behind (_ :: (row 65 gA ++ row 65 gB)) (by simpa using S)
theorem WS.new {o : Obj} {K : Nat → zab → Prop} (s : WS D n A B fA fB O w C h) (hK : ∀ b h1, WS D n A B fA fB O w ([(b, o)] :: C) h1 → K b h1) : zhx h o K := by
 obtain ⟨gA, gB, a, b, S⟩ := s
 exact S.new fun m h1 S => hK m h1 ⟨gA, gB, a, b, S.inn⟩
theorem WS.store {m i o : Nat} {l vs : List Value} {T : TypeId} {K : zab → Prop} (s : WS D n A B fA fB O w ([(m, .cells ⟨l⟩ T (0, 0))] :: C) h) (hl : Nat.ble (o + i + vs.length) l.length = true) (hv : vs.all single = true)
 (hK : ∀ h', WS D n A B fA fB O w ([(m, .cells ⟨zar l (o + i) vs⟩ T (0, 0))] :: C) h' → K h') : zc2 m o vs i h K := by
 obtain ⟨gA, gB, a, b, S⟩ := s
 exact S.out.st0 hl hv fun h' S => hK h' ⟨gA, gB, a, b, S.inn⟩
theorem WS.drop {x : zac} (s : WS D n A B fA fB O w (x :: C) h) : WS D n A B fA fB O w C h := by
 obtain ⟨gA, gB, a, b, S⟩ := s
 exact ⟨gA, gB, a, b, S.out.drop⟩
theorem WS.cell (s : WS D n A B fA fB O w C h) (o : Nat) : hcell h ⟨w, o, none⟩ = (zbq n A B O)[o]? := by
 obtain ⟨gA, gB, a, b, S⟩ := s
 rw [S.ld0]; simp
theorem WS.nn (s : WS D n A B fA fB O w C h) : hcell h ⟨w, 0, none⟩ = some (.int .i64 n) := s.cell 0
theorem WS.a (s : WS D n A B fA fB O w C h) (hk : k < 65) : hcell h ⟨w, 1 + k, none⟩ = some (A k) := by rw [s.cell, W_A hk]
theorem WS.o (s : WS D n A B fA fB O w C h) (hk : k < 65) : hcell h ⟨w, 66 + k, none⟩ = some (.int .i64 (O k)) := by rw [s.cell, W_O hk]
theorem WS.b (s : WS D n A B fA fB O w C h) (hk : k < 65) : hcell h ⟨w, 131 + k, none⟩ = some (B k) := by rw [s.cell, W_B hk]
theorem WS.sl (s : WS D n A B fA fB O w C h) (hk : k < 65) : (∃ a c, A k = .slice a (fA k).length c) ∧ ∃ a c, B k = .slice a (fB k).length c := by
 obtain ⟨gA, gB, a, b, S⟩ := s
 obtain ⟨a1, c1, e1, -⟩ := a k hk
 obtain ⟨a2, c2, e2, -⟩ := b k hk
 exact ⟨⟨a1, c1, e1⟩, a2, c2, e2⟩
theorem WS.setO {y : Int} {K : zab → Prop} (s : WS D n A B fA fB O w C h) (hk : k < 65) (hK : ∀ h', WS D n A B fA fB (zc8 O k y) w C h' → K h') : stK h ⟨w, 66 + k, none⟩ (.int .i64 y) K := by
 obtain ⟨gA, gB, a, b, S⟩ := s
 refine S.sk0 (Nat.ble_eq_true_of_le (by rw [W_len]; omega)) rfl fun h' S => hK h' ⟨gA, gB, a, b, ?_⟩
 rwa [W_setO hk] at S
theorem WS.appA {m : Nat} {y : Int} {T : TypeId} {K : Value → zab → Prop} (s : WS D n A B fA fB O w ([(m, .cells ⟨[.int .i64 y]⟩ T (0, 0))] :: C) h) (hk : k < 65) (hb : (fA k).length ≤ 1000)
 (hK : ∀ a' n' c' h', St D C h' → (∀ K' : zab → Prop, (∀ h'', WS D n (zc8 A k (.slice a' n' c')) B (zc8 fA k (fA k ++ [y])) fB O w C h'' → K' h'') → stK h' ⟨w, 1 + k, none⟩ (.slice a' n' c') K') → K (.slice a' n' c') h') :
 ze5 Tryz.prog #[111, 111] 111 (A k) (.slice (some ⟨m, 0, none⟩) 1 1) h K := by
 obtain ⟨gA, gB, sa, sb, S⟩ := s
 obtain ⟨a, c, e, own⟩ := sa k hk
 rw [e]
 have S2 := St.take S hk
 have src : Src D h 1 (some ⟨m, 0, none⟩) ([y].map eI) := Src.one (T := T) (f := (0, 0)) (c := []) S2 (by simp) (rd_I.2 rfl) rfl
 refine app_e (r := fA k) (r2 := [y]) eyI own S2 src rfl rfl (by simp; omega) fun a' c' ch' h' o' S' => hK a' _ c' h' ?_ fun K' hK' => ?_
 · exact St.behind (ch' :: webC n A B O w :: (row 65 (zc8 gA k []) ++ (row 65 gB ++ [[(m, .cells ⟨[.int .i64 y]⟩ T (0, 0))]]))) (by simpa using S')
 · refine S'.sk1 (Nat.ble_eq_true_of_le (by rw [W_len]; omega)) rfl fun h'' S'' => hK' h'' (WS.drop (x := [(m, .cells ⟨[.int .i64 y]⟩ T (0, 0))]) ⟨zc8 gA k ch', gB, ?_, sb, ?_⟩)
   · exact sa.upd k o'
   · rw [W_setA hk] at S''
     exact St.give S'' hk
theorem WS.appB {m : Nat} {y : Int} {T : TypeId} {K : Value → zab → Prop} (s : WS D n A B fA fB O w ([(m, .cells ⟨[.int .i64 y]⟩ T (0, 0))] :: C) h) (hk : k < 65) (hb : (fB k).length ≤ 1000)
 (hK : ∀ a' n' c' h', St D C h' → (∀ K' : zab → Prop, (∀ h'', WS D n A (zc8 B k (.slice a' n' c')) fA (zc8 fB k (fB k ++ [y])) O w C h'' → K' h'') → stK h' ⟨w, 131 + k, none⟩ (.slice a' n' c') K') → K (.slice a' n' c') h') :
 ze5 Tryz.prog #[111, 111] 111 (B k) (.slice (some ⟨m, 0, none⟩) 1 1) h K := by
 obtain ⟨gA, gB, sa, sb, S⟩ := s
 obtain ⟨a, c, e, own⟩ := sb k hk
 rw [e]
 have S2 := St.take S.swapR hk
 have src : Src D h 1 (some ⟨m, 0, none⟩) ([y].map eI) := Src.one (T := T) (f := (0, 0)) (c := []) S2 (by simp) (rd_I.2 rfl) rfl
 refine app_e (r := fB k) (r2 := [y]) eyI own S2 src rfl rfl (by simp; omega) fun a' c' ch' h' o' S' => hK a' _ c' h' ?_ fun K' hK' => ?_
 · exact St.behind (ch' :: webC n A B O w :: (row 65 (zc8 gB k []) ++ (row 65 gA ++ [[(m, .cells ⟨[.int .i64 y]⟩ T (0, 0))]]))) (by simpa using S')
 · refine S'.sk1 (Nat.ble_eq_true_of_le (by rw [W_len]; omega)) rfl fun h'' S'' => hK' h'' (WS.drop (x := [(m, .cells ⟨[.int .i64 y]⟩ T (0, 0))]) ⟨gA, zc8 gB k ch', sa, ?_, ?_⟩)
   · exact sb.upd k o'
   · rw [W_setB hk] at S''
     exact (St.give S'' hk).swapR
end
structure gOK (n : Int) (L : List Stk) : Prop where
 n0 : 0 ≤ n
 n64 : n ≤ 64
 len : L.length ≤ 256
 ok : ∀ p ∈ L, inn p.1 1 n = true ∧ inn p.2 1 n = true
theorem is_spec {n node : Int} {w : Nat} {R : Value → zab → Prop} (hc : hcell h ⟨w, 0, none⟩ = some (.int .i64 n)) (k : R (.bool (inn node 1 n)) h) : Run Tryz.prog 302 [.pointer (some ⟨w, 0, none⟩), .int .i64 node] h R := by
 refine V302 _ _ _ _ ?_
 unfold VC302
 refine cIf (fun h1 => zeb ⟨_, hc, ?_⟩) fun h1 => ?_
 · rwa [show inn node 1 n = decide (node ≤ n) by unfold inn; simp; omega] at k
 · rwa [show inn node 1 n = false by unfold inn; simp; omega] at k
theorem row_nil (N : Nat) : (row N fun _ => []).flatten = [] := by simp [row]
theorem zlx (t : List Stk) (k : Nat) : (zag t k).length ≤ t.length := by unfold zag; rw [List.length_map]; exact List.length_filter_le ..
theorem zk8 (t : List Stk) (k : Nat) : (zat t k).length ≤ t.length := by unfold zat; rw [List.length_map]; exact List.length_filter_le ..
theorem made_spec {a : Option Addr} {c : Nat} {L : List Stk} {n : Int} {R : Value → zab → Prop} (S : St D C h) (hx : Rd D (.slice a L.length c) (.l 2 (L.map eS)))
 (k0 : ¬ gOK n L → ∀ h', St D C h' → R (.pointer none) h') (k1 : gOK n L → ∀ A B w h', WS D n A B (zag L) (zat L) (fun k => ((zag L k).length : Int)) w C h' → R (.pointer (some ⟨w, 0, none⟩)) h') :
 Run Tryz.prog 258 [.int .i64 n, .slice a L.length c] h R := by
 refine V258 _ _ _ _ _ _ ?_
 unfold VC258
 refine cIf (fun h1 => k0 (fun g => by have := g.n0; omega) h S) fun h1 => cIf (fun h2 => k0 (fun g => by have := g.n64; omega) h S) fun h2 => cIf (fun h3 => k0 (fun g => by have := g.len; omega) h S) fun h3 => ?_
 refine S.new fun w h1 S => ?_
 have W0 : WS D n (fun _ => .slice none 0 0) (fun _ => .slice none 0 0) (zag []) (zat []) (fun k => ((zag [] k).length : Int)) w C h1 :=
  ⟨fun _ => [], fun _ => [], fun k _ => ⟨none, 0, rfl, .nil⟩, fun k _ => ⟨none, 0, rfl, .nil⟩, St.perm S (by simp [row_nil]; exact .refl _)⟩
 clear S
 refine ⟨fun x h' => ∃ t l A B, x = ((List.length t : Nat) : Int) ∧ L = t ++ l ∧ (∀ p ∈ t, inn p.1 1 n = true ∧ inn p.2 1 n = true) ∧ WS D n A B (zag t) (zat t) (fun k => ((zag t k).length : Int)) w C h', fun x _ => L.length - x.toNat, ⟨[], L, _, _, rfl, rfl, by simp, W0⟩, ?_⟩
 clear W0
 rintro - h2 x ⟨t, l, A, B, rfl, hL, hok, W⟩
 have hlen := congrArg List.length hL
 rw [List.length_append] at hlen
 refine cIf (fun hlt => ?_) fun hge => ?_
 rotate_left
 · have : l = [] := List.eq_nil_of_length_eq_zero (by omega)
   subst this
   rw [List.append_nil] at hL
   subst hL
   exact k1 ⟨by omega, by omega, by omega, hok⟩ A B w h2 W
 rcases l with _ | ⟨p, l⟩
 · simp at hlen; omega
 have hgt : (L.map eS)[t.length]? = some (eS p) := by rw [hL]; simp
 obtain ⟨hs, h0 | ⟨bb, o, vv, rfl, hc⟩⟩ := hx.src W.cc
 · rw [h0] at hgt; simp at hgt
 have c0 := hc t.length 0 _ _ hgt rfl
 have c1 := hc t.length 1 _ _ hgt rfl
 rw [Rd.int_iff.1 c0.2] at c0
 rw [Rd.int_iff.1 c1.2] at c1
 have bad : ¬ (inn p.1 1 n = true ∧ inn p.2 1 n = true) → ∀ h', St D C h' → R (.pointer none) h' := fun hb => k0 fun g => hb (g.ok p (by rw [hL]; simp))
 refine zeb ⟨by omega, by omega, _, c0.1, _, c1.1, ?_⟩
 refine W.new fun m h3 W => W.store (by rfl) (by rfl) fun h4 W => ?_
 have W : WS D n A B (zag t) (zat t) (fun k => ((zag t k).length : Int)) w ([(m, .cells ⟨[.int .i64 p.1, .int .i64 p.2]⟩ 194 (0, 0))] :: C) h4 := W
 have rd : ∀ {h' : zab}, St D ([(m, .cells ⟨[.int .i64 p.1, .int .i64 p.2]⟩ 194 (0, 0))] :: C) h' → hcell h' ⟨m, 0, none⟩ = some (.int .i64 p.1) ∧ hcell h' ⟨m, 1, none⟩ = some (.int .i64 p.2) := fun S => ⟨S.ld0, S.ld0⟩
 have r4 := rd W.cc
 refine ⟨by decide, by decide, _, r4.1, is_spec W.nn ⟨_, rfl, zjm (cB (fun i1 => ?_) fun i1 => bad (by simp [i1]) _ W.cc.drop)⟩⟩
 refine ⟨by decide, by decide, _, r4.2, is_spec W.nn ⟨_, rfl, zjm (cB (fun i2 => ?_) fun i2 => bad (by simp [i2]) _ W.cc.drop)⟩⟩
 have j1 := inn_iff.1 i1
 have j2 := inn_iff.1 i2
 have k1' : p.1.toNat < 65 := by omega
 have k2' : p.2.toNat < 65 := by omega
 obtain ⟨⟨a1, cc1, e1⟩, -⟩ := W.sl k1'
 obtain ⟨-, a2, cc2, e2⟩ := W.sl k2'
 have ra := W.a k1'
 rw [e1] at ra
 refine ⟨by decide, by decide, _, r4.1, by decide, by decide, _, r4.1, by omega, by omega, _, _, _, by rw [Nat.mul_one]; exact ra, by decide, by decide, _, r4.2, W.new fun m7 h7 W => ?_⟩
 have r7 := rd W.cc.drop
 have ra := W.a k1'
 rw [e1] at ra
 refine ⟨⟨_, _, _, by rw [Nat.mul_one]; exact ra, rfl⟩, ⟨_, r7.1, rfl⟩, ⟨_, r7.1, rfl⟩, ?_⟩
 rw [← e1]
 have hbA : (zag t p.1.toNat).length ≤ 1000 := by have := zlx t p.1.toNat; omega
 have hbB : (zat t p.2.toNat).length ≤ 1000 := by have := zk8 t p.2.toNat; omega
 refine WS.appA W k1' hbA fun a3 n3 c3 h8 S8 st => ⟨_, _, _, rfl, ⟨_, (rd S8).1, rfl⟩, by omega, by omega, ?_⟩
 rw [Nat.mul_one]
 refine st _ fun h9 W => ?_
 have r9 := rd W.cc
 have rb := W.b k2'
 rw [e2] at rb
 refine ⟨by decide, by decide, _, r9.2, by decide, by decide, _, r9.2, by omega, by omega, _, _, _, by rw [Nat.mul_one]; exact rb, by decide, by decide, _, r9.1, W.new fun m8 h10 W => ?_⟩
 have r10 := rd W.cc.drop
 have rb := W.b k2'
 rw [e2] at rb
 refine ⟨⟨_, _, _, by rw [Nat.mul_one]; exact rb, rfl⟩, ⟨_, r10.2, rfl⟩, ⟨_, r10.2, rfl⟩, ?_⟩
 rw [← e2]
 refine WS.appB W k2' hbB fun a4 n4 c4 h11 S11 st => ⟨_, _, _, rfl, ⟨_, (rd S11).2, rfl⟩, by omega, by omega, ?_⟩
 rw [Nat.mul_one]
 refine st _ fun h12 W => ?_
 have r12 := rd W.cc
 have ro := W.o k1'
 refine ⟨by decide, by decide, _, r12.1, by omega, by omega, _, by rw [Nat.mul_one]; exact ro, by omega, by omega, ?_⟩
 rw [Nat.mul_one, w64 (by omega) (by omega)]
 refine W.setO k1' fun h13 W => ?_
 rw [w64n (by omega)]
 refine ⟨⟨t ++ [p], l, zc8 A p.1.toNat (.slice a3 n3 c3), zc8 B p.2.toNat (.slice a4 n4 c4), by simp, by rw [hL]; simp, fun q hq => ?_, ?_⟩, by simp only [Int.toNat_natCast]; omega⟩
 · rcases List.mem_append.1 hq with hq | hq
   · exact hok q hq
   · simp at hq; subst hq; exact ⟨i1, i2⟩
 · have eA := needsOf_snoc t p (by omega)
   have eB := zqw t p (by omega)
   rw [eA, eB]
   have eO : (fun k => (((zc8 (zag t) p.1.toNat (zag t p.1.toNat ++ [p.2])) k).length : Int)) = zc8 (fun k => ((zag t k).length : Int)) p.1.toNat (((zag t p.1.toNat).length : Int) + 1) := by
    funext j; unfold zc8; split <;> simp
   rw [eO]
   exact W.drop
end
def Nx1 (L : List Stk) (n : Int) (out : List Int) (k : Int) : Prop := 1 ≤ k ∧ k ≤ n ∧ k ∉ out ∧ ∀ p ∈ L, p.1 = k → p.2 ∈ out
inductive Greedy (L : List Stk) (n : Int) : List Int → Prop where
 | nil : Greedy L n []
 | snoc {out : List Int} {k : Int} : Greedy L n out → Nx1 L n out k → (∀ j, Nx1 L n out j → k ≤ j) → Greedy L n (out ++ [k])
section
variable {L : List Stk} {n : Int} {a b out : List Int} {k : Int}
theorem Greedy.inv (h : Greedy L n (out ++ [k])) : Greedy L n out ∧ Nx1 L n out k ∧ ∀ j, Nx1 L n out j → k ≤ j := by
 generalize hx : out ++ [k] = x at h
 cases h with
 | nil => simp at hx
 | snoc g h1 h2 =>
   obtain ⟨rfl, rfl⟩ := List.append_inj' hx rfl |>.imp id (fun h => by simpa using h)
   exact ⟨g, h1, h2⟩
theorem znw (l : List Int) : l = [] ∨ ∃ t x, l = t ++ [x] := by
 by_cases h : l = []
 · exact .inl h
 · exact .inr ⟨l.dropLast, l.getLast h, (List.dropLast_concat_getLast h).symm⟩
theorem Greedy.same : ∀ {a b : List Int}, Greedy L n a → Greedy L n b → a.length = b.length → a = b := by
 intro a
 induction h : a.length generalizing a with
 | zero =>
   intro b _ _ hl
   have := List.eq_nil_of_length_eq_zero h
   have := List.eq_nil_of_length_eq_zero hl.symm
   simp [*]
 | succ m ih =>
   intro b ga gb hl
   rcases znw a with rfl | ⟨t, x, rfl⟩
   · cases h
   rcases znw b with rfl | ⟨u, y, rfl⟩
   · cases hl
   simp at h hl
   obtain ⟨g1, n1, m1⟩ := ga.inv
   obtain ⟨g2, n2, m2⟩ := gb.inv
   have := ih h g1 g2 (by omega)
   subst this
   have h1 := m1 y n2
   have h2 := m2 x n1
   rw [show x = y by omega]
theorem Greedy.take (g : Greedy L n a) : ∀ m, Greedy L n (a.take m) := by
 induction g with
 | nil => intro m; simp; exact .nil
 | @snoc out k g h1 h2 ih =>
   intro m
   by_cases hm : m ≤ out.length
   · rw [List.take_append_of_le_length hm]; exact ih m
   · rw [List.take_of_length_le (by simp; omega)]; exact .snoc g h1 h2
theorem Greedy.max (ga : Greedy L n a) (hn : ∀ k, ¬ Nx1 L n a k) (gb : Greedy L n b) : b.length ≤ a.length := by
 apply Decidable.byContradiction
 intro h
 have h1 : b.take a.length = a := (gb.take _).same ga (by rw [List.length_take]; omega)
 have h2 := gb.take (a.length + 1)
 have hb : b[a.length]? = some b[a.length] := List.getElem?_eq_getElem (by omega)
 rw [List.take_add_one, hb, h1] at h2
 exact hn _ h2.inv.2.1
theorem Greedy.nodup (g : Greedy L n a) : a.Nodup := by
 induction g with
 | nil => exact .nil
 | snoc g h1 h2 ih =>
   rw [List.nodup_append]
   refine ⟨ih, by simp, ?_⟩
   intro x hx y hy e
   simp at hy; subst hy; subst e
   exact h1.2.2.1 hx
theorem Greedy.mem (g : Greedy L n a) : ∀ x ∈ a, 1 ≤ x ∧ x ≤ n := by
 induction g with
 | nil => simp
 | snoc g h1 h2 ih =>
   intro x hx
   rcases List.mem_append.1 hx with hx | hx
   · exact ih x hx
   · simp at hx; subst hx; exact ⟨h1.1, h1.2.1⟩
theorem Greedy.met (g : Greedy L n a) : ∀ k ∈ a, ∀ p ∈ L, p.1 = k → p.2 ∈ a := by
 induction g with
 | nil => simp
 | snoc g h1 h2 ih =>
   intro k hk p hp e
   rw [List.mem_append]
   rcases List.mem_append.1 hk with hk | hk
   · exact .inl (ih k hk p hp e)
   · simp at hk; subst hk; exact .inl (h1.2.2.2 p hp e)
theorem zcc : ∀ {a : List Int} {n : Int}, a.Nodup → (∀ x ∈ a, 1 ≤ x ∧ x ≤ n) → 0 ≤ n → (a.length : Int) ≤ n := by
 intro a n hd hm hn
 have hsub : a ⊆ (List.range n.toNat).map fun (i : Nat) => (i : Int) + 1 := fun x hx => by
  have := hm x hx
  exact List.mem_map.2 ⟨(x - 1).toNat, List.mem_range.2 (by omega), by omega⟩
 have := hd.length_le_of_subset hsub
 simp at this
 omega
def cRg (L : List Stk) (out : List Int) (k : Int) : Nat := (L.filter fun p => p.1 == k && !out.contains p.2).length
theorem cR_zero : cRg L out k = 0 ↔ ∀ p ∈ L, p.1 = k → p.2 ∈ out := by
 unfold cRg
 rw [List.length_eq_zero_iff, List.filter_eq_nil_iff]
 simp
theorem cR_nil (k : Nat) : cRg L [] (k : Int) = (zag L k).length := by
 unfold cRg zag
 simp
theorem cR_snoc {x : Int} (hx : x ∉ out) : cRg L out k = cRg L (out ++ [x]) k + (L.filter fun p => p.1 == k && p.2 == x).length := by
 induction L with
 | nil => rfl
 | cons p L ih =>
   unfold cRg at ih ⊢
   simp only [List.filter_cons]
   by_cases h1 : p.1 = k
   · by_cases h2 : p.2 = x
     · have : p.2 ∉ out := h2 ▸ hx
       simp [h1, h2, hx] at ih ⊢; omega
     · by_cases h3 : p.2 ∈ out
       · simp [h1, h2, h3] at ih ⊢; omega
       · simp [h1, h2, h3] at ih ⊢; omega
   · simp [h1] at ih ⊢; omega
theorem zk7 {x : Nat} : (zat L x).count k = (L.filter fun p => p.1 == k && p.2 == (x : Int)).length := by
 unfold zat
 rw [List.count, List.countP_map, List.countP_eq_length_filter, List.filter_filter]
 congr 1
end
section
attribute [local irreducible] ze5 zjx delK zov zfp zjq zdj zgx zcw zbe zb0 zcp zjk
variable {D D' : Fz} {C : List zac} {h h' : zab} {x W : zac} {X Y : List zac}
section
variable {n : Int} {A B : Nat → Value} {fA fB : Nat → List Int} {O : Nat → Int} {w k : Nat}
theorem WS.swap {x y : zac} (s : WS D n A B fA fB O w (x :: y :: C) h) : WS D n A B fA fB O w (y :: x :: C) h := by
 obtain ⟨gA, gB, a, b, S⟩ := s
 refine ⟨gA, gB, a, b, S.perm ?_⟩
 simp only [List.flatten_cons, List.flatten_append]
 refine List.Perm.append_left _ (List.Perm.append_left _ (List.Perm.append_left _ ?_))
 exact List.perm_append_comm_assoc ..
theorem WS.swap2 {x y z : zac} (s : WS D n A B fA fB O w (x :: y :: z :: C) h) : WS D n A B fA fB O w (y :: z :: x :: C) h := by
 obtain ⟨gA, gB, a, b, S⟩ := s
 refine ⟨gA, gB, a, b, S.perm ?_⟩
 simp only [List.flatten_cons, List.flatten_append]
 refine List.Perm.append_left _ (List.Perm.append_left _ (List.Perm.append_left _ ?_))
 refine (List.perm_append_comm_assoc ..).trans (List.Perm.append_left _ ?_)
 exact List.perm_append_comm_assoc ..
theorem WS.app {m c : Nat} {y : Int} {T : TypeId} {a : Option Addr} {r : List Int} {ch : zac} {K : Value → zab → Prop} (own : Own D 3 1 a c (r.map eI) ch) (s : WS D n A B fA fB O w ([(m, .cells ⟨[.int .i64 y]⟩ T (0, 0))] :: ch :: C) h) (hb : r.length ≤ 1000)
 (hK : ∀ a' c' ch' h', Own D 3 1 a' c' ((r ++ [y]).map eI) ch' → WS D n A B fA fB O w (ch' :: C) h' → K (.slice a' (r ++ [y]).length c') h') :
 ze5 Tryz.prog #[111, 111] 111 (.slice a r.length c) (.slice (some ⟨m, 0, none⟩) 1 1) h K := by
 obtain ⟨gA, gB, sa, sb, S⟩ := s
 have src : Src D h 1 (some ⟨m, 0, none⟩) ([y].map eI) := Src.one (T := T) (f := (0, 0)) (c := []) S (by simp) (rd_I.2 rfl) rfl
 exact app_e (r := r) (r2 := [y]) eyI own S.out.drop.out src rfl rfl (by simp; omega) fun a' c' ch' h' o' S' => hK a' c' ch' h' o' ⟨gA, gB, sa, sb, S'.inn⟩
theorem WS.sk {m i : Nat} {l : List Value} {v : Value} {T : TypeId} {K : zab → Prop} (s : WS D n A B fA fB O w ([(m, .cells ⟨l⟩ T (0, 0))] :: C) h) (hl : Nat.ble (i + 1) l.length = true) (hv : single v = true)
 (hK : ∀ h', WS D n A B fA fB O w ([(m, .cells ⟨l.set i v⟩ T (0, 0))] :: C) h' → K h') : stK h ⟨m, i, none⟩ v K := by
 obtain ⟨gA, gB, a, b, S⟩ := s
 exact S.out.sk0 hl hv fun h' S => hK h' ⟨gA, gB, a, b, S.inn⟩
theorem WS.user {a : Option Addr} {m c i : Nat} {y : Int} {z : Int} {K : Nat → Nat → Prop} (s : WS D n A B fA fB O w C h) (hk : k < 65) (e : B k = .slice a m c) (hz : z = (i : Int)) (hi : (fB k)[i]? = some y) (hK : ∀ b o, hcell h ⟨b, o + z.toNat * 1, none⟩ = some (.int .i64 y) → K b o) : zbj a K := by
 obtain ⟨gA, gB, sa, sb, S⟩ := s
 obtain ⟨a', c', e', own⟩ := sb k hk
 rw [e] at e'
 cases e'
 exact own_I own (St.take S.swapR hk) hz hi hK
theorem St.cellOf {b o : Nat} {l : List Value} {T : TypeId} {f : Nat × Nat} (S : St D C h) (hm : ([(b, Obj.cells ⟨l⟩ T f)] : zac) ∈ C) : hcell h ⟨b, o, Option.none⟩ = l[o]? := by
 have := S.own (b, .cells ⟨l⟩ T f) (List.mem_flatten.2 ⟨_, hm, by simp⟩)
 rw [zao this]; simp
end
theorem keepI_mem {p : Int → Bool} {l : List Int} {x : Int} : x ∈ zjs p l ↔ x ∈ l ∧ p x = false := by simp [zjs]
theorem nx1_iff {L : List Stk} {n : Int} {out : List Int} {k : Int} : Nx1 L n out k ↔ 1 ≤ k ∧ k ≤ n ∧ k ∉ out ∧ cRg L out k = 0 := by rw [cR_zero]; rfl
theorem order_spec {L : List Stk} {n : Int} {A B : Nat → Value} {w : Nat} (g : gOK n L) (W : WS D n A B (zag L) (zat L) (fun k => ((zag L k).length : Int)) w C h) :
 Run Tryz.prog 259 [.pointer (some ⟨w, 0, none⟩)] h fun v h' => ∃ a c out ch O, v = .slice a (List.length out) c ∧ Greedy L n out ∧ (∀ k, ¬ Nx1 L n out k) ∧ Own D 3 1 a c (out.map eI) ch ∧ WS D n A B (zag L) (zat L) O w (ch :: C) h' := by
 obtain ⟨g0, g1, g2, g3⟩ := g
 have hp1 : ∀ p ∈ L, 1 ≤ p.1 ∧ p.1 ≤ n := fun p hp => inn_iff.1 (g3 p hp).1
 refine V259 _ _ _ ?_
 unfold VC259
 refine ⟨fun p m c x h1 => ∃ (r : List Int) (ch : zac), 1 ≤ x ∧ x ≤ n + 1 ∧ m = List.length r ∧ Own D 3 1 p c (r.map eI) ch ∧ WS D n A B (zag L) (zat L) (fun k => ((zag L k).length : Int)) w (ch :: C) h1 ∧ r.Nodup ∧ ∀ k, k ∈ r ↔ 1 ≤ k ∧ k < x ∧ cRg L [] k = 0,
  fun _ _ _ x _ => (n + 1 - x).toNat, ⟨[], [], by decide, by omega, rfl, .nil, by obtain ⟨gA, gB, a, b, S⟩ := W; exact ⟨gA, gB, a, b, S.nil.swap.perm (by simp)⟩, .nil, fun k => by simp; omega⟩, ?_⟩
 clear W
 rintro - h1 p m c x ⟨r, ch, hx1, hx2, rfl, own, W, hnd, hr⟩
 refine zeb ⟨_, W.nn, ?_⟩
 refine cIf (fun hle => ?_) fun hgt => ?_
 · have hk : x.toNat < 65 := by omega
   have hrl : r.length ≤ 64 := by
    have := zcc hnd (fun y hy => by have := (hr y).1 hy; exact ⟨this.1, show y ≤ n by omega⟩) g0
    omega
   have ho := W.o hk
   have hcx : cRg L [] x = (zag L x.toNat).length := by
    have := cR_nil (L := L) x.toNat
    rwa [show ((x.toNat : Nat) : Int) = x by omega] at this
   have hstep : ∀ r' : List Int, (∀ k, k ∈ r' ↔ k ∈ r ∨ (k = x ∧ cRg L [] x = 0)) → ∀ k, k ∈ r' ↔ 1 ≤ k ∧ k < x + 1 ∧ cRg L [] k = 0 := by
    intro r' h k
    rw [h, hr]
    constructor
    · rintro (h | ⟨rfl, h⟩)
      · exact ⟨h.1, by omega, h.2.2⟩
      · exact ⟨hx1, by omega, h⟩
    · rintro ⟨h1, h2, h3⟩
      by_cases hkx : k = x
      · subst hkx; exact .inr ⟨rfl, h3⟩
      · exact .inl ⟨h1, by omega, h3⟩
   refine zeb ⟨by omega, by omega, _, by rw [Nat.mul_one, Nat.zero_add]; exact ho, ?_⟩
   rw [w64 (by omega) (by omega)]
   refine cEq (fun h0 => W.new fun m7 h2 W => WS.app own W (by omega) fun a' c' ch' h3 own W => ⟨_, _, _, rfl, ⟨r ++ [x], ch', by omega, by omega, rfl, own, W, ?_, ?_⟩, by show (n + 1 - (x + 1)).toNat < (n + 1 - x).toNat; omega⟩) fun h0 => ⟨⟨r, ch, by omega, by omega, rfl, own, W, hnd, ?_⟩, by show (n + 1 - (x + 1)).toNat < (n + 1 - x).toNat; omega⟩
   · rw [List.nodup_append]
     refine ⟨hnd, by simp, fun a ha b hb e => ?_⟩
     simp at hb; subst hb; subst e
     have := (hr _).1 ha; omega
   · refine hstep _ fun k => ?_
     rw [List.mem_append, List.mem_singleton]
     constructor
     · rintro (h | rfl)
       · exact .inl h
       · exact .inr ⟨rfl, by omega⟩
     · rintro (h | ⟨rfl, -⟩)
       · exact .inl h
       · exact .inr rfl
   · refine hstep _ fun k => ⟨.inl, ?_⟩
     rintro (h | ⟨rfl, h⟩)
     · exact h
     · omega
 have hxn : x = n + 1 := by omega
 subst hxn
 refine ⟨fun p m c q m' c' h2 => ∃ (r out : List Int) (ch ch' : zac) (O : Nat → Int), m = List.length r ∧ m' = List.length out ∧ Own D 3 1 p c (r.map eI) ch ∧ Own D 3 1 q c' (out.map eI) ch' ∧ WS D n A B (zag L) (zat L) O w (ch :: ch' :: C) h2 ∧ r.Nodup ∧ Greedy L n out ∧
  (∀ k : Nat, 1 ≤ k → (k : Int) ≤ n → O k = (cRg L out k : Int)) ∧ ∀ k, k ∈ r ↔ Nx1 L n out k,
  fun _ _ _ _ m' _ _ => 64 - m', ⟨r, [], ch, [], fun k => ((zag L k).length : Int), rfl, rfl, own, .nil, by obtain ⟨gA, gB, a, b, S⟩ := W; exact ⟨gA, gB, a, b, S.perm (by simp)⟩, hnd, .nil, fun k _ _ => by rw [cR_nil], fun k => by rw [hr, nx1_iff]; simp; omega⟩, ?_⟩
 clear hgt hx1 hx2 hr hnd own W r ch
 rintro - h2 p m c q m' c' ⟨r, out, ch, ch', O, rfl, rfl, ownR, ownO, W, hnd, hG, hO, hr⟩
 refine cIf (fun hlt => ?_) fun hge => ?_
 rotate_left
 · have : r = [] := List.eq_nil_of_length_eq_zero (by omega)
   subst this
   exact ⟨_, _, out, ch', O, rfl, hG, fun k hk => by have := (hr k).2 hk; simp at this, ownO, W.drop⟩
 rcases r with _ | ⟨y, r⟩
 · simp at hlt
 have hmem : ∀ k ∈ y :: r, 1 ≤ k ∧ k ≤ n := fun k hk => by have := (hr k).1 hk; exact ⟨this.1, this.2.1⟩
 have hrl : (y :: r).length ≤ 64 := by have := zcc hnd hmem g0; omega
 have hol : out.length ≤ 64 := by have := zcc hG.nodup hG.mem g0; omega
 obtain ⟨gA, gB, sa, sb, S⟩ := W
 refine (min_spec ownR S.out (by simp at hrl; omega)).mono ?_
 rintro v h3 ⟨rfl, rfl⟩
 have W : WS D n A B (zag L) (zat L) O w (ch :: ch' :: C) _ := ⟨gA, gB, sa, sb, S⟩
 clear S sa sb gA gB
 have hx : minI y r ∈ y :: r := by rcases minI_mem r y with h | h <;> simp [h]
 have hle : ∀ j ∈ y :: r, minI y r ≤ j := by
  intro j hj
  rcases List.mem_cons.1 hj with rfl | hj
  · exact (minI_le r j).1
  · exact (minI_le r y).2 j hj
 generalize minI y r = x at *
 have hnx := (hr x).1 hx
 have hxb := hmem x hx
 refine ⟨_, rfl, W.new fun m1 h3 W => ?_⟩
 refine WS.sk (i := 0) W rfl rfl fun h4 W => ?_
 have W : WS D n A B (zag L) (zat L) O w ([(m1, .cells ⟨[.int .i64 x]⟩ 3 (0, 0))] :: ch :: ch' :: C) h4 := W
 have W := W.swap
 obtain ⟨gA, gB, sa, sb, S⟩ := W
 refine (deleteI_spec ownR S.out (by omega) (fun z => z == x) _ fun z hz ch h S => ?_).mono ?_
 · refine callV_1 (V305 _ _ _ _ (zeb ⟨x, ?_, rfl, S⟩))
   exact (St.cellOf (T := 3) (f := (0, 0)) (l := [.int .i64 x]) S (by simp)).trans rfl
 rintro v h5 ⟨chR, rfl, ownR, S⟩
 have W : WS D n A B (zag L) (zat L) O w (chR :: [(m1, .cells ⟨[.int .i64 x]⟩ 3 (0, 0))] :: ch' :: C) h5 := ⟨gA, gB, sa, sb, S.inn⟩
 have W := W.swap2
 have rd : ∀ {h' : zab} {X : List zac}, St D ([(m1, .cells ⟨[.int .i64 x]⟩ 3 (0, 0))] :: X) h' → hcell h' ⟨m1, 0, none⟩ = some (.int .i64 x) := fun S => S.ld0
 refine ⟨_, _, _, rfl, _, rd W.cc, W.swap.new fun m2 h6 W => ?_⟩
 refine WS.app ownO W (by omega) fun aO cO chO h7 ownO W => ⟨_, _, _, rfl, ?_⟩
 have W := W.swap
 have hxt : x.toNat < 65 := by omega
 have hxe : ((x.toNat : Nat) : Int) = x := by omega
 obtain ⟨-, aB, cB, eB⟩ := W.sl hxt
 have rb := W.b hxt
 rw [eB] at rb
 refine ⟨_, rd W.cc, zeb ⟨by omega, by omega, _, _, _, by rw [Nat.mul_one, Nat.zero_add]; exact rb, ?_⟩⟩
 have hout : ∀ k ∈ out, ∀ p ∈ L, p.1 = k → p.2 ∈ out := hG.met
 have hG2 : Greedy L n (out ++ [x]) := .snoc hG hnx fun j hj => hle j ((hr j).2 hj)
 have hol2 : (out ++ [x]).length ≤ 64 := by have := zcc hG2.nodup hG2.mem g0; omega
 refine ⟨fun p m c z h => ∃ (t l r' : List Int) (chR : zac) (O' : Nat → Int), zat L x.toNat = t ++ l ∧ z = ((List.length t : Nat) : Int) ∧ m = List.length r' ∧ Own D 3 1 p c (r'.map eI) chR ∧ WS D n A B (zag L) (zat L) O' w (chR :: chO :: C) h ∧ r'.Nodup ∧
  (∀ k : Nat, 1 ≤ k → (k : Int) ≤ n → O' k = (cRg L out k : Int) - t.count (k : Int)) ∧ ∀ k, k ∈ r' ↔ 1 ≤ k ∧ k ≤ n ∧ k ∉ out ++ [x] ∧ O' k.toNat = 0,
  fun _ _ _ z _ => (zat L x.toNat).length - z.toNat, ⟨[], _, _, chR, O, rfl, rfl, rfl, ownR, W.drop.swap, ?_, fun k a b => by simpa using hO k a b, fun k => ?_⟩, ?_⟩
 · exact List.Pairwise.filter _ hnd
 · rw [keepI_mem, hr, nx1_iff]
   simp
   constructor
   · rintro ⟨⟨a, b, c, d⟩, e⟩
     have := hO k.toNat (by omega) (by omega)
     rw [show ((k.toNat : Nat) : Int) = k by omega] at this
     exact ⟨a, b, ⟨c, e⟩, by omega⟩
   · rintro ⟨a, b, ⟨c, e⟩, d⟩
     have := hO k.toNat (by omega) (by omega)
     rw [show ((k.toNat : Nat) : Int) = k by omega] at this
     exact ⟨⟨a, b, c, by omega⟩, e⟩
 clear rb W rd ownR
 rintro - h8 p m c z ⟨t, l, r', chR, O', hU, rfl, rfl, ownR, W, hnd', hO', hr'⟩
 have hUl := congrArg List.length hU
 rw [List.length_append] at hUl
 refine cIf (fun hlt => ?_) fun hge => ?_
 · rcases l with _ | ⟨u, l⟩
   · simp at hUl; omega
   have hum : u ∈ zat L x.toNat := by rw [hU]; simp
   obtain ⟨q, hq, rfl⟩ := List.mem_map.1 hum
   obtain ⟨hqL, hqx⟩ := List.mem_filter.1 hq
   have hqx : q.2 = x := by simpa [hxe] using hqx
   have hb := hp1 q hqL
   have hqt : q.1.toNat < 65 := by omega
   have hqe : ((q.1.toNat : Nat) : Int) = q.1 := by omega
   have hcnt : (zat L x.toNat).count q.1 = t.count q.1 + (l.count q.1 + 1) := by rw [hU, List.count_append, List.count_cons_self]
   have hc1 := cR_snoc (L := L) (k := q.1) hnx.2.2.1
   have hc2 := zk7 (L := L) (k := q.1) (x := x.toNat)
   rw [hxe] at hc2
   have ho := hO' q.1.toNat (by omega) (by omega)
   rw [hqe] at ho
   have hpos : 1 ≤ O' q.1.toNat := by omega
   have hcl : cRg L out q.1 ≤ L.length := List.length_filter_le ..
   have hno : q.1 ∉ out ++ [x] := by
    intro hm
    have : cRg L out q.1 = 0 := by
     rcases List.mem_append.1 hm with hm | hm
     · exact cR_zero.2 (hout _ hm)
     · simp at hm; rw [hm]; exact (nx1_iff.1 hnx).2.2.2
    omega
   have hnr : q.1 ∉ r' := fun hm => by have := ((hr' _).1 hm).2.2.2; omega
   have hrl' : r'.length ≤ 64 := by have := zcc hnd' (fun k hk => ⟨((hr' k).1 hk).1, ((hr' k).1 hk).2.1⟩) g0; omega
   have hgu : (zat L x.toNat)[t.length]? = some q.1 := by rw [hU]; simp
   have rO := W.o hqt
   refine WS.user W hxt eB rfl hgu fun b o c0 => ⟨by omega, by omega, _, c0, zeb ⟨by omega, by omega, _, by rw [Nat.mul_one, Nat.zero_add]; exact rO, zeb ⟨by omega, by omega, ?_⟩⟩⟩
   rw [Nat.mul_one, Nat.zero_add, w64 (x := O' q.1.toNat - 1) (by omega) (by omega)]
   refine W.setO hqt fun h9 W => ?_
   have rO := W.o hqt
   rw [zk9] at rO
   refine zeb ⟨by omega, by omega, _, by rw [Nat.zero_add]; exact rO, ?_⟩
   have hul := zk8 L x.toNat
   rw [w64n (by omega)]
   have hOn : ∀ k : Nat, 1 ≤ k → (k : Int) ≤ n → zc8 O' q.1.toNat (O' q.1.toNat - 1) k = (cRg L out k : Int) - (t ++ [q.1]).count (k : Int) := by
    intro k a b
    have := hO' k a b
    unfold zc8
    rw [List.count_append]
    by_cases hk : k = q.1.toNat
    · subst hk; rw [if_pos rfl, hqe, List.count_singleton_self]; omega
    · rw [if_neg hk, List.count_eq_zero_of_not_mem (a := (k : Int)) (l := [q.1]) (by simp; omega)]; omega
   have hme : (zat L x.toNat).length - Int.toNat ((t.length + 1 : Nat) : Int) < (zat L x.toNat).length - Int.toNat ((t.length : Nat) : Int) := by simp only [Int.toNat_natCast]; simp at hUl; omega
   have hrn : ∀ k, k ∉ r' ∨ k ∈ r' → (1 ≤ k ∧ k ≤ n ∧ k ∉ out ++ [x] ∧ zc8 O' q.1.toNat (O' q.1.toNat - 1) k.toNat = 0 ↔ k ∈ r' ∨ k = q.1 ∧ O' q.1.toNat - 1 = 0) := by
    intro k _
    rw [hr']
    unfold zc8
    constructor
    · rintro ⟨a, b, c, d⟩
      by_cases hk : k = q.1
      · subst hk; rw [if_pos rfl] at d; exact .inr ⟨rfl, d⟩
      · rw [if_neg (by omega)] at d; exact .inl ⟨a, b, c, d⟩
    · rintro (⟨a, b, c, d⟩ | ⟨rfl, d⟩)
      · have : k ≠ q.1 := by rintro rfl; omega
        rw [if_neg (by omega)]; exact ⟨a, b, c, d⟩
      · rw [if_pos rfl]; exact ⟨hb.1, hb.2, hno, d⟩
   refine cEq (fun h0 => W.new fun m3 h10 W => WS.app ownR W (by omega) fun a' c' ch' h11 own W => ⟨_, _, _, rfl, ⟨t ++ [q.1], l, r' ++ [q.1], ch', _, by rw [hU]; simp, by simp, rfl, own, W, ?_, hOn, fun k => ?_⟩, hme⟩) fun h0 => ⟨⟨t ++ [q.1], l, r', chR, _, by rw [hU]; simp, by simp, rfl, ownR, W, hnd', hOn, fun k => ?_⟩, hme⟩
   · rw [List.nodup_append]
     refine ⟨hnd', by simp, fun a ha b hb e => ?_⟩
     simp at hb; subst hb; subst e
     exact hnr ha
   · rw [hrn k (Classical.em _).symm, List.mem_append, List.mem_singleton]
     constructor
     · rintro (h | rfl)
       · exact .inl h
       · exact .inr ⟨rfl, h0⟩
     · rintro (h | ⟨rfl, -⟩)
       · exact .inl h
       · exact .inr rfl
   · rw [hrn k (Classical.em _).symm]
     exact ⟨.inl, fun h => h.resolve_right fun e => h0 e.2⟩
 · have : l = [] := List.eq_nil_of_length_eq_zero (by omega)
   subst this
   rw [List.append_nil] at hU
   have hOe : ∀ k : Nat, 1 ≤ k → (k : Int) ≤ n → O' k = (cRg L (out ++ [x]) k : Int) := by
    intro k a b
    have h1 := hO' k a b
    have h2 := cR_snoc (L := L) (k := (k : Int)) hnx.2.2.1
    have h3 := zk7 (L := L) (k := (k : Int)) (x := x.toNat)
    rw [hxe] at h3
    rw [hU] at h3
    omega
   refine ⟨⟨r', out ++ [x], chR, chO, O', rfl, rfl, ownR, ownO, W, hnd', hG2, hOe, fun k => ?_⟩, by simp at hol2 ⊢; omega⟩
   rw [hr', nx1_iff]
   constructor
   · rintro ⟨a, b, c, d⟩
     have := hOe k.toNat (by omega) (by omega)
     rw [show ((k.toNat : Nat) : Int) = k by omega] at this
     exact ⟨a, b, c, by omega⟩
   · rintro ⟨a, b, c, d⟩
     have := hOe k.toNat (by omega) (by omega)
     rw [show ((k.toNat : Nat) : Int) = k by omega] at this
     exact ⟨a, b, c, by omega⟩
end
section
attribute [local irreducible] ze5 zjx delK zov zfp zjq zdj zgx zcw zbe zb0 zcp zjk
variable {Q : V → Mem → Prop}
theorem PRun.fz {P : Program} {g : FuncId} {args : List V} {Q : V → Mem → Prop}
 (hh : ∀ (D : Fz) (C : List zac) (h : zab) (vs : List Value), St D C h → RpL D [] vs args → Run P g vs h fun v h' => ∃ D', Le D D' ∧ St D' C h' ∧ ∃ x, Rp D' [] v x ∧ Q x []) : PRun P g [] args Q := by
 intro D ρ chs C h vs M F
 have h1 : ρ = [] := List.eq_nil_of_length_eq_zero M.len
 have h2 : chs = [] := List.eq_nil_of_length_eq_zero M.lch
 subst h1; subst h2
 refine (hh D C h vs (by simpa using M.st) F).mono ?_
 rintro v h' ⟨D', l, S, x, hx, hQ⟩
 exact ⟨D', [], [], x, [], l, ⟨rfl, rfl, fun i L ab ch h => (by simp at h), by simpa using S⟩, hx, hQ⟩
def tabU (N : Nat) (f : Nat → U) : List U := (List.range N).map f
theorem zc9 (N : Nat) (f : Nat → U) : (tabU N f).length = N := by simp [tabU]
theorem zj1 {N k : Nat} (f : Nat → U) (h : k < N) : (tabU N f)[k]? = some (f k) := by simp [tabU, h]
def webU (n : Int) (L : List Stk) (O : Nat → Int) : List U := .n n :: (tabU 65 (fun k => .l 1 ((zag L k).map eI)) ++ (tabU 65 (fun k => .n (O k)) ++ tabU 65 (fun k => .l 1 ((zat L k).map eI))))
theorem ug_get : ∀ (l : List U) (k : Nat), ug l k = l[k]?
 | [], k => by cases k <;> rfl
 | x :: l, 0 => rfl
 | x :: l, k + 1 => by simp only [ug, List.getElem?_cons_succ]; exact ug_get l k
theorem web_needs {n : Int} {L : List Stk} {O : Nat → Int} {k : Nat} (h : k < 65) : ug (webU n L O) (1 + k) = some (.l 1 ((zag L k).map eI)) := by
 rw [ug_get, webU, Nat.add_comm, List.getElem?_cons_succ, List.getElem?_append_left (by rw [zc9]; exact h), zj1 _ h]
theorem rd_web {D : Fz} {n : Int} {A B : Nat → Value} {L : List Stk} {O : Nat → Int} {w : Nat} {T : TypeId} (hw : D w = some (.cells ⟨zbq n A B O⟩ T (0, 0))) (ha : RdW D A (zag L)) (hb : RdW D B (zat L)) :
 Rd D (.pointer (some ⟨w, 0, none⟩)) (.p (some (webU n L O))) := by
 refine .pp w 0 _ T _ _ (fun j => ((zbq n A B O)[j]?).getD undef) hw ?_ ?_
 · intro j u hu
   have hj : j < 196 := by have := (List.getElem?_eq_some_iff.1 hu).1; simpa [webU, zc9] using this
   have : j < (zbq n A B O).length := by rw [W_len]; exact hj
   simp [this]
 · intro j u hu
   have hj : j < 196 := by have := (List.getElem?_eq_some_iff.1 hu).1; simpa [webU, zc9] using this
   rcases Nat.eq_zero_or_pos j with rfl | h0
   · simp [webU] at hu; subst hu
     exact .int _ _
   obtain ⟨j, rfl⟩ : ∃ i, j = i + 1 := ⟨j - 1, by omega⟩
   rw [webU, List.getElem?_cons_succ] at hu
   by_cases h1 : j < 65
   · rw [List.getElem?_append_left (by rw [zc9]; exact h1), zj1 _ h1] at hu
     cases hu
     obtain ⟨a, c, e, r⟩ := ha j h1
     rw [Nat.add_comm, W_A h1, Option.getD_some, e]; exact r
   rw [List.getElem?_append_right (by rw [zc9]; omega), zc9] at hu
   by_cases h2 : j - 65 < 65
   · rw [List.getElem?_append_left (by rw [zc9]; exact h2), zj1 _ h2] at hu
     cases hu
     rw [show j + 1 = 66 + (j - 65) by omega, W_O h2]
     exact .int _ _
   · have h3 : j - 65 - 65 < 65 := by omega
     rw [List.getElem?_append_right (by rw [zc9]; omega), zc9, zj1 _ h3] at hu
     cases hu
     obtain ⟨a, c, e, r⟩ := hb _ h3
     rw [show j + 1 = 131 + (j - 65 - 65) by omega, W_B h3, Option.getD_some, e]; exact r
theorem ordered_S {n : Int} {L : List Stk} (k1 : ¬ gOK n L → Q (.t [.u (.p none), .l 1 [], .i 1]) [])
 (k2 : gOK n L → ∀ out : List Int, Greedy L n out → (∀ k, ¬ Nx1 L n out k) → (out.length : Int) < n → Q (.t [.u (.p none), .l 1 [], .i 9]) [])
 (k3 : gOK n L → ∀ (out : List Int) (O : Nat → Int), Greedy L n out → (∀ k, ¬ Nx1 L n out k) → ¬ (out.length : Int) < n → Q (.t [.u (.p (some (webU n L O))), .l 1 (out.map eI), .i 0]) []) :
 PRun Tryz.prog 181 [] [.i n, .l 2 (L.map eS)] Q := by
 refine .fz fun D C h vs S F => ?_
 obtain ⟨v, z, rfl, h1, h2⟩ := F.two
 rw [Rd.int_iff.1 h1.u_inv]
 have hx := h2.u_inv
 obtain ⟨a, c, rfl, -, -⟩ := hx.shape
 rw [List.length_map] at hx ⊢
 refine V181 _ _ _ _ _ _ ?_
 unfold VC181
 refine made_spec S hx (fun hg h' S => ⟨_, rfl, ⟨D, .refl _, S, _, .t (.cons (.u .pn) (.cons (.u (.nil _ _ _)) (.cons (.u (.int _ _)) .nil))), k1 hg⟩⟩) fun hg A B w h' W => ⟨_, rfl, ?_⟩
 rw [Option.isNone_some, cond_false]
 refine (order_spec hg W).mono ?_
 rintro v h2 ⟨aO, cO, out, ch, O, rfl, hG, hN, own, W⟩
 refine ⟨_, _, _, rfl, cIf (fun hlt => ⟨D, .refl _, W.cc.drop, _, .t (.cons (.u .pn) (.cons (.u (.nil _ _ _)) (.cons (.u (.int _ _)) .nil))), k2 hg out hG hN hlt⟩) fun hge => ?_⟩
 obtain ⟨gA, gB, sa, sb, S⟩ := W
 have S2 : St D ((webC n A B O w ++ ((row 65 gA).flatten ++ ((row 65 gB).flatten ++ ch))) :: C) h2 := S.perm (by simp)
 obtain ⟨D', l, hf, S3⟩ := S2.freeze
 have ra := sa.rd l fun p hp => hf p (by simp only [List.mem_append]; exact .inr (.inl hp))
 have rb := sb.rd l fun p hp => hf p (by simp only [List.mem_append]; exact .inr (.inr (.inl hp)))
 have ro := own.rd l fun p hp => hf p (by simp only [List.mem_append]; exact .inr (.inr (.inr hp)))
 rw [List.length_map] at ro
 exact ⟨D', l, S3, _, .t (.cons (.u (rd_web (hf (w, .cells ⟨zbq n A B O⟩ 303 (0, 0)) (by simp)) ra rb)) (.cons (.u ro) (.cons (.u (.int _ _)) .nil))), k3 hg out O hG hN hge⟩
end
section
set_option maxRecDepth 100000
theorem mixT3 : Tryz.prog.follows .mixedOrders = true := by kernel_rfl
theorem S4 {c_0 : Int} {c_1 : List (List U)} {c_2 : Int} {c_3 : List (List U)} {c_4 : Int} {c_5 : Int} {c_6 : Int} {c_7 : Int} {Q : V → Mem → Prop} (hh : ∃ (I1 : Int → Prop) (f1 : Int → Nat), I1 0 ∧ (∀ x1 : Int, I1 x1 → (bif decide (x1 < (List.length c_1 : Int)) then (bif decide (x1 < 20) then elL c_1 x1 (fun r1 => dL 2 (ug r1 3) (fun l1 => (bif decide ((List.length l1 : Int) > 12) then Q (.u (.b false)) [] else I1 (IntKind.wrap .i64 (x1 + 1)) ∧ f1 (IntKind.wrap .i64 (x1 + 1)) < f1 x1))) else (bif decide ((List.length c_1 : Int) ≤ 20) then Q (.u (.b (decide ((List.length c_3 : Int) ≤ 12)))) [] else Q (.u (.b false)) [])) else (bif decide ((List.length c_1 : Int) ≤ 20) then Q (.u (.b (decide ((List.length c_3 : Int) ≤ 12)))) [] else Q (.u (.b false)) [])))) : PRun Tryz.prog 4 [] [.a [.i c_0, .l 7 c_1, .i c_2, .l 4 c_3, .i c_4, .i c_5, .i c_6, .i c_7]] Q :=
 zav mixT3 Tryz.func4 (by kernel_rfl) (H := ⟨[((4, 2, 1), ⟨[(3, .I)], []⟩)], [], [], [], [], false, 64, KN.no, false, SP.no⟩) (n := 2) (by kernel_rfl) hh
end
section
set_option maxRecDepth 100000
theorem mixT4 : Tryz.prog.follows .mixedOrders = true := by kernel_rfl
theorem S5 {l : List (List U)} {most : Int} {Q : V → Mem → Prop} (hh : ∃ (I1 : Int → Prop) (f1 : Int → Nat), I1 0 ∧ (∀ x1 : Int, I1 x1 → (bif decide (x1 < (List.length l : Int)) then (bif decide (x1 < most) then 0 ≤ x1 ∧ x1 < (List.length l : Int) ∧ (elL l x1 (fun r1 => dL 2 (ug r1 44) (fun l1 => (bif decide ((List.length l1 : Int) > 12) then Q (.u (.b false)) [.w 42 50 l] else 0 ≤ x1 ∧ x1 < (List.length l : Int) ∧ (elL l x1 (fun r2 => dL 2 (ug r2 45) (fun l2 => (bif decide ((List.length l2 : Int) > 12) then Q (.u (.b false)) [.w 42 50 l] else I1 (IntKind.wrap .i64 (x1 + 1)) ∧ f1 (IntKind.wrap .i64 (x1 + 1)) < f1 x1)))))))) else Q (.u (.b (decide ((List.length l : Int) ≤ most)))) [.w 42 50 l]) else Q (.u (.b (decide ((List.length l : Int) ≤ most)))) [.w 42 50 l]))) : PRun Tryz.prog 5 [.w 42 50 l] [.w 0, .i most] Q :=
 zav mixT4 Tryz.func5 (by kernel_rfl) (H := ⟨[((5, 2, 1), ⟨[(5, .I)], []⟩)], [], [], [], [], false, 64, KN.no, false, SP.no⟩) (n := 2) (by kernel_rfl) hh
end
section
set_option maxRecDepth 100000
theorem mixTp : Tryz.prog.follows .mixedOrders = true := by kernel_rfl
theorem S281 {x : Int} {Q : V → Mem → Prop} (hh : Q (.u (.b (x != x))) []) : PRun Tryz.prog 281 [] [.i x] Q :=
 zav mixTp Tryz.func281 (by kernel_rfl) (H := ⟨[], [], [], [], [], false, 64, KN.no, false, SP.no⟩) (n := 2) (by kernel_rfl) hh
theorem S215 {x : Int} {y : Int} {Q : V → Mem → Prop} (hh : PRun Tryz.prog 281 [] [.i x] (post [.B] [] (fun b1 => (PRun Tryz.prog 281 [] [.i y] (post [.B] [] (fun b2 => (bif b1 then (bif b2 then Q (.i 0) [] else Q (.i (-1)) []) else (bif b2 then Q (.i 1) [] else (bif decide (x < y) then Q (.i (-1)) [] else (bif decide (x > y) then Q (.i 1) [] else Q (.i 0) []))) : Prop))) : Prop)))) : PRun Tryz.prog 215 [] [.i x, .i y] Q :=
 zav mixTp Tryz.func215 (by kernel_rfl) (H := ⟨[], [], [], [], [], false, 64, KN.no, false, SP.no⟩) (n := 2) (by kernel_rfl) hh
theorem S289 {a_0 : Int} {a_1 : Int} {a_2 : Int} {a_3 : Int} {b_0 : Int} {b_1 : Int} {b_2 : Int} {b_3 : Int} {Q : V → Mem → Prop} (hh : bif eqI [a_0, a_1, a_2, a_3] [b_0, b_1, b_2, b_3] then Q (.i 0) [] else PRun Tryz.prog 215 [] [.i a_0, .i b_0] (post [.I] [] (fun x1 => (bif x1 != 0 then Q (.i x1) [] else PRun Tryz.prog 215 [] [.i a_1, .i b_1] (post [.I] [] (fun x2 => (bif x2 != 0 then Q (.i x2) [] else PRun Tryz.prog 215 [] [.i a_2, .i b_2] (post [.I] [] (fun x3 => (bif x3 != 0 then Q (.i x3) [] else PRun Tryz.prog 215 [] [.i a_3, .i b_3] (post [.I] [] (fun x4 => (bif x4 != 0 then Q (.i x4) [] else Q (.i 0) [] : Prop))) : Prop))) : Prop))) : Prop)))) : PRun Tryz.prog 289 [] [.a [.i a_0, .i a_1, .i a_2, .i a_3], .a [.i b_0, .i b_1, .i b_2, .i b_3]] Q :=
 zav mixTp Tryz.func289 (by kernel_rfl) (H := ⟨[], [], [], [], [], false, 64, KN.no, false, SP.no⟩) (n := 2) (by kernel_rfl) hh
theorem S290 {x : List (List U)} {target_0 : Int} {target_1 : Int} {target_2 : Int} {target_3 : Int} {Q : V → Mem → Prop} (hh : ∃ (I1 : Int → Int → Prop) (f1 : Int → Int → Nat), I1 0 (List.length x : Int) ∧ (∀ x1 : Int, ∀ x2 : Int, I1 x1 x2 → (bif decide (x1 < x2) then 0 ≤ (1 : Int) ∧ (elL x (IntKind.wrap .i64 (Int.fdiv (IntKind.wrap .u64 (IntKind.wrap .i64 (x1 + x2))) (2 ^ (1)))) (fun r1 => dI .i64 (ug r1 0) (fun x3 => dI .i64 (ug r1 1) (fun x4 => dI .i64 (ug r1 2) (fun x5 => dI .i64 (ug r1 3) (fun x6 => dI .i64 (ug r1 4) (fun x7 => PRun Tryz.prog 289 [] [.a [.i x3, .i x4, .i x5, .i x6], .a [.i target_0, .i target_1, .i target_2, .i target_3]] (post [.I] [] (fun x8 => (bif decide (x8 < 0) then I1 (IntKind.wrap .i64 (IntKind.wrap .i64 (Int.fdiv (IntKind.wrap .u64 (IntKind.wrap .i64 (x1 + x2))) (2 ^ (1))) + 1)) x2 ∧ f1 (IntKind.wrap .i64 (IntKind.wrap .i64 (Int.fdiv (IntKind.wrap .u64 (IntKind.wrap .i64 (x1 + x2))) (2 ^ (1))) + 1)) x2 < f1 x1 x2 else I1 x1 (IntKind.wrap .i64 (Int.fdiv (IntKind.wrap .u64 (IntKind.wrap .i64 (x1 + x2))) (2 ^ (1)))) ∧ f1 x1 (IntKind.wrap .i64 (Int.fdiv (IntKind.wrap .u64 (IntKind.wrap .i64 (x1 + x2))) (2 ^ (1)))) < f1 x1 x2 : Prop)))))))))) else (bif decide (x1 < (List.length x : Int)) then elL x x1 (fun r2 => dI .i64 (ug r2 0) (fun x9 => dI .i64 (ug r2 1) (fun x10 => dI .i64 (ug r2 2) (fun x11 => dI .i64 (ug r2 3) (fun x12 => dI .i64 (ug r2 4) (fun x13 => PRun Tryz.prog 289 [] [.a [.i x9, .i x10, .i x11, .i x12], .a [.i target_0, .i target_1, .i target_2, .i target_3]] (post [.I] [] (fun x14 => (Q (.t [.i x1, .u (.b (x14 == 0))]) [] : Prop))))))))) else Q (.t [.i x1, .u (.b false)]) [])))) : PRun Tryz.prog 290 [] [.l 5 x, .a [.i target_0, .i target_1, .i target_2, .i target_3], .f 291 [] []] Q :=
 zav mixTp Tryz.func290 (by kernel_rfl) (H := ⟨[((290, 3, 1), ⟨[(9, .I), (10, .I)], []⟩)], [], [291], [], [], false, 64, KN.no, false, SP.no⟩) (n := 3) (by kernel_rfl) hh
end
section
variable {Q : V → Mem → Prop}
theorem isNaN_S {x : Int} (k : Q (.u (.b false)) []) : PRun Tryz.prog 281 [] [.i x] Q := S281 (by simpa using k)
theorem cmpI_S {x y : Int} (k : Q (.i (if x < y then -1 else if y < x then 1 else 0)) []) : PRun Tryz.prog 215 [] [.i x, .i y] Q := by
 refine S215 (isNaN_S ?_)
 rw [zau]
 refine isNaN_S ?_
 rw [zau]
 refine cIf (fun h => by rwa [if_pos h] at k) fun h => cIf (fun h2 => ?_) fun h2 => ?_
 · rw [if_neg h, if_pos (show y < x from h2)] at k; exact k
 · rw [if_neg h, if_neg (show ¬ y < x from h2)] at k; exact k
abbrev kV (k : K4) : V := .a [.i k.a, .i k.b, .i k.c, .i k.d]
def cmpK (x y : K4) : Int := if x = y then 0 else if x.lt y then -1 else 1
theorem cmpK_S {x y : K4} (k : Q (.i (cmpK x y)) []) : PRun Tryz.prog 289 [] [kV x, kV y] Q := by
 refine S289 ?_
 rw [zp0]
 refine cIf (fun h => ?_) fun h => ?_
 · simp only [List.cons.injEq, and_true] at h
   have : x = y := K4.ext' h.1 h.2.1 h.2.2.1 h.2.2.2
   unfold cmpK at k
   rwa [if_pos this] at k
 have hne : x ≠ y := fun e => h (by rw [e])
 unfold cmpK at k
 rw [if_neg hne] at k
 have step : ∀ {a b : Int} {K : Prop}, (a < b → Q (.i (-1)) []) → (b < a → Q (.i 1) []) → (a = b → K) → PRun Tryz.prog 215 [] [.i a, .i b] (post [.I] [] (fun x1 => (bif x1 != 0 then Q (.i x1) [] else K : Prop))) := fun {a b K} h1 h2 h3 => by
  refine cmpI_S ?_
  rw [zcj]
  by_cases hab : a < b
  · rw [if_pos hab]; exact h1 hab
  · by_cases hba : b < a
    · rw [if_neg hab, if_pos hba]; exact h2 hba
    · rw [if_neg hab, if_neg hba]; exact h3 (by omega)
 have lt : x.lt y → Q (.i (-1)) [] := fun h => by rwa [if_pos h] at k
 have gt : y.lt x → Q (.i 1) [] := fun h => by rwa [if_neg (K4.asym h)] at k
 refine step (fun h => lt (.inl h)) (fun h => gt (.inl h)) fun e1 => ?_
 refine step (fun h => lt (.inr ⟨e1, .inl h⟩)) (fun h => gt (.inr ⟨e1.symm, .inl h⟩)) fun e2 => ?_
 refine step (fun h => lt (.inr ⟨e1, .inr ⟨e2, .inl h⟩⟩)) (fun h => gt (.inr ⟨e1.symm, .inr ⟨e2.symm, .inl h⟩⟩)) fun e3 => ?_
 refine step (fun h => lt (.inr ⟨e1, .inr ⟨e2, .inr ⟨e3, h⟩⟩⟩)) (fun h => gt (.inr ⟨e1.symm, .inr ⟨e2.symm, .inr ⟨e3.symm, h⟩⟩⟩)) fun e4 => ?_
 exact absurd (K4.ext' e1 e2 e3 e4) hne
def eT (r : K4 × Int) : List U := [.n r.1.a, .n r.1.b, .n r.1.c, .n r.1.d, .n r.2]
theorem cmpK_neg {x y : K4} : cmpK x y < 0 ↔ x.lt y := by
 unfold cmpK
 by_cases h : x = y
 · subst h; simp [K4.irr]
 · rw [if_neg h]
   by_cases h2 : x.lt y
   · simp [h2]
   · simp [h2]
theorem cmpK_zero {x y : K4} : cmpK x y = 0 ↔ x = y := by
 unfold cmpK
 by_cases h : x = y
 · simp [h]
 · rw [if_neg h]
   by_cases h2 : x.lt y <;> simp [h2, h]
theorem zhl {l : Tb} {k : K4} (hs : Srt l) (hl : l.length ≤ 1000000) (kk : Q (.t [.i (zdy k l : Nat), .u (.b (zhh k l).isSome)]) []) : PRun Tryz.prog 290 [] [.l 5 (l.map eT), kV k, .f 291 [] []] Q := by
 have hlen : ((l.map eT).length : Int) = (l.length : Int) := by rw [List.length_map]
 refine S290 ⟨fun x y => ∃ a b : Nat, x = (a : Int) ∧ y = (b : Int) ∧ a ≤ b ∧ b ≤ l.length ∧ (∀ (i : Nat) (r : K4 × Int), i < a → l[i]? = some r → r.1.lt k) ∧ (∀ (i : Nat) (r : K4 × Int), b ≤ i → l[i]? = some r → ¬ r.1.lt k), fun x y => (y - x).toNat, ⟨0, l.length, rfl, hlen, Nat.zero_le _, Nat.le_refl _, fun i r h => by omega, fun i r h hr => by rw [List.getElem?_eq_none h] at hr; cases hr⟩, ?_⟩
 rintro _ _ ⟨a, b, rfl, rfl, hab, hbl, h1, h2⟩
 refine cIf (fun h => ?_) fun h => ?_
 · have hlt : a < b := by omega
   have e1 : IntKind.wrap .i64 ((a : Int) + b) = (a : Int) + b := w64 (by omega) (by omega)
   have e2 : IntKind.wrap .u64 ((a : Int) + b) = (a : Int) + b := by rw [IntKind.wrap_u64]; omega
   have e3 : Int.fdiv ((a : Int) + b) (2 ^ 1) = (((a + b) / 2 : Nat) : Int) := by
    rw [← Int.natCast_add]
    show Int.fdiv ((a + b : Nat) : Int) 2 = _
    rw [Int.fdiv_eq_ediv_of_nonneg _ (by omega)]
    omega
   have e4 : IntKind.wrap .i64 (((a + b) / 2 : Nat) : Int) = (((a + b) / 2 : Nat) : Int) := w64 (by omega) (by omega)
   rw [e1, e2, show ((2 : Int) ^ (1 : Nat)) = 2 ^ 1 from rfl, e3, e4]
   generalize hm : (a + b) / 2 = m
   have hm1 : a ≤ m := by omega
   have hm2 : m < b := by omega
   have hml : m < l.length := by omega
   refine ⟨by omega, ?_⟩
   rw [zbf (r := eT l[m]) (by omega) (by simp [hml])]
   simp only [eT, ug0, ugs, ze6]
   refine cmpK_S (x := l[m].1) (y := k) ?_
   rw [zcj]
   have e5 : IntKind.wrap .i64 ((m : Int) + 1) = ((m + 1 : Nat) : Int) := by rw [w64 (by omega) (by omega)]; omega
   refine cIf (fun hc => ?_) fun hc => ?_
   · rw [cmpK_neg] at hc
     rw [e5]
     refine ⟨⟨m + 1, b, rfl, rfl, by omega, hbl, fun i r hi hr => ?_, h2⟩, by omega⟩
     by_cases hia : i < a
     · exact h1 i r hia hr
     · have hil : i < l.length := by omega
       by_cases him : i = m
       · subst him
         rw [List.getElem?_eq_getElem hml] at hr
         cases hr
         exact hc
       · have hlt2 : r.1.lt l[m].1 := by
          rw [List.getElem?_eq_getElem hil] at hr
          cases hr
          exact List.pairwise_iff_getElem.1 hs i m hil hml (by omega)
         exact hlt2.trans hc
   · rw [cmpK_neg] at hc
     refine ⟨⟨a, m, rfl, rfl, hm1, by omega, h1, fun i r hi hr => ?_⟩, by omega⟩
     have hil : i < l.length := by
      rcases Nat.lt_or_ge i l.length with q | q
      · exact q
      · rw [List.getElem?_eq_none q] at hr; cases hr
     by_cases him : i = m
     · subst him
       rw [List.getElem?_eq_getElem hml] at hr
       cases hr
       exact hc
     · rw [List.getElem?_eq_getElem hil] at hr
       cases hr
       exact fun h3 => hc ((List.pairwise_iff_getElem.1 hs m i hml hil (by omega)).trans h3)
 · have : b = a := by omega
   subst this
   have hp := tpos_eq hs hbl h1 h2
   have hg := tget_at (k := k) hs
   rw [← hp] at hg kk
   rw [hlen]
   refine cIf (fun hc => ?_) fun hc => ?_
   · have hlt : b < l.length := by omega
     rw [zbf (r := eT l[b]) (by omega) (by simp [hlt])]
     simp only [eT, ug0, ugs, ze6]
     refine cmpK_S (x := l[b].1) (y := k) ?_
     rw [zcj]
     rw [List.getElem?_eq_getElem hlt] at hg
     dsimp only at hg
     have : (cmpK l[b].1 k == 0) = (zhh k l).isSome := by
      rw [hg]
      by_cases e : l[b].1 = k
      · rw [if_pos e]; simp [cmpK_zero.2 e]
      · rw [if_neg e]
        have : cmpK l[b].1 k ≠ 0 := fun h => e (cmpK_zero.1 h)
        simp [this]
     rw [this]
     exact kk
   · rw [List.getElem?_eq_none (by omega)] at hg
     dsimp only at hg
     rw [hg] at kk
     exact kk
end
section
set_option maxRecDepth 100000
theorem mixTq : Tryz.prog.follows .mixedOrders = true := by kernel_rfl
theorem S136 {p_0 : List (List U)} {p_1 : Int} {owner : Int} {Q : V → Mem → Prop} (hh : PRun Tryz.prog 290 [] [.l 5 p_0, .a [.i owner, .i 0, .i 0, .i 0], .f 291 [] []] (post [.I, .B] [] (fun x1 b1 => (bif !b1 then Q (.t [.i 0, .i 3]) [.c [.l 5 p_0, .i p_1]] else elL p_0 x1 (fun r1 => dI .i64 (ug r1 4) (fun x2 => Q (.t [.i x2, .i 0]) [.c [.l 5 p_0, .i p_1]])) : Prop)))) : PRun Tryz.prog 136 [.c [.l 5 p_0, .i p_1]] [.r 0 0, .i owner] Q :=
 zav mixTq Tryz.func136 (by kernel_rfl) (H := ⟨[], [], [133, 134, 205, 226], [], [], false, 64, KN.no, false, SP.no⟩) (n := 5) (by kernel_rfl) hh
theorem S66 {p_0 : List (List U)} {p_1 : Int} {owner : Int} {Q : V → Mem → Prop} (hh : bif decide (owner < 0) then Q (.i 1) [.c [.l 5 p_0, .i p_1]] else (bif decide (owner > 1099511627776) then Q (.i 1) [.c [.l 5 p_0, .i p_1]] else PRun Tryz.prog 290 [] [.l 5 p_0, .a [.i owner, .i 0, .i 0, .i 0], .f 291 [] []] (post [.I, .B] [] (fun x1 b1 => (bif !b1 then PRun Tryz.prog 290 [] [.l 5 p_0, .a [.i owner, .i 0, .i 0, .i 0], .f 291 [] []] (post [.I, .B] [] (fun x2 b2 => (0 ≤ x2 ∧ (x2 ≤ (List.length p_0 : Int) ∧ (List.length p_0 : Int) ≤ (List.length p_0 : Int) ∧ (bif b2 then 0 ≤ (1 : Int) ∧ ((1 : Int) ≤ (List.length (List.drop (Int.toNat x2) (List.take (List.length p_0) p_0)) : Int) ∧ (List.length (List.drop (Int.toNat x2) (List.take (List.length p_0) p_0)) : Int) ≤ (List.length (List.drop (Int.toNat x2) (List.take (List.length p_0) p_0)) : Int) ∧ ((0 : Int) ≤ x2 ∧ x2 ≤ (List.length p_0 : Int) ∧ x2 = x2 ∧ (zet (List.take (Int.toNat x2) p_0) [[.n owner, .n 0, .n 0, .n 0, .n 0]] ∧ (zet (List.take (Int.toNat x2) p_0 ++ [[.n owner, .n 0, .n 0, .n 0, .n 0]]) (List.drop 1 (List.take (List.length (List.drop (Int.toNat x2) (List.take (List.length p_0) p_0))) (List.drop (Int.toNat x2) (List.take (List.length p_0) p_0)))) ∧ (Q (.i 0) [.c [.w 1, .i p_1], .w 345 5 (List.take (Int.toNat x2) p_0 ++ [[.n owner, .n 0, .n 0, .n 0, .n 0]] ++ List.drop 1 (List.take (List.length (List.drop (Int.toNat x2) (List.take (List.length p_0) p_0))) (List.drop (Int.toNat x2) (List.take (List.length p_0) p_0))))]))))) else (0 : Int) ≤ x2 ∧ x2 ≤ (List.length p_0 : Int) ∧ x2 = x2 ∧ (zet (List.take (Int.toNat x2) p_0) [[.n owner, .n 0, .n 0, .n 0, .n 0]] ∧ (zet (List.take (Int.toNat x2) p_0 ++ [[.n owner, .n 0, .n 0, .n 0, .n 0]]) (List.drop (Int.toNat x2) (List.take (List.length p_0) p_0)) ∧ (Q (.i 0) [.c [.w 1, .i p_1], .w 345 5 (List.take (Int.toNat x2) p_0 ++ [[.n owner, .n 0, .n 0, .n 0, .n 0]] ++ List.drop (Int.toNat x2) (List.take (List.length p_0) p_0))]))))) : Prop))) else elL p_0 x1 (fun r1 => dI .i64 (ug r1 4) (fun x3 => Q (.i 9) [.c [.l 5 p_0, .i p_1]])) : Prop))))) : PRun Tryz.prog 66 [.c [.l 5 p_0, .i p_1]] [.r 0 0, .i owner] Q :=
 zav mixTq Tryz.func66 (by kernel_rfl) (H := ⟨[], [], [133, 134, 135, 205, 226], [], [], false, 64, KN.no, false, SP.no⟩) (n := 5) (by kernel_rfl) hh
theorem S138 {p_0 : List (List U)} {p_1 : Int} {owner : Int} {n : Int} {Q : V → Mem → Prop} (hh : ∀ k1 : Int → Prop, (∀ x1 : Int, (PRun Tryz.prog 290 [] [.l 5 p_0, .a [.i owner, .i 0, .i 0, .i 0], .f 291 [] []] (post [.I, .B] [] (fun x2 b1 => (0 ≤ x2 ∧ (x2 ≤ (List.length p_0 : Int) ∧ (List.length p_0 : Int) ≤ (List.length p_0 : Int) ∧ (bif b1 then 0 ≤ (1 : Int) ∧ ((1 : Int) ≤ (List.length (List.drop (Int.toNat x2) (List.take (List.length p_0) p_0)) : Int) ∧ (List.length (List.drop (Int.toNat x2) (List.take (List.length p_0) p_0)) : Int) ≤ (List.length (List.drop (Int.toNat x2) (List.take (List.length p_0) p_0)) : Int) ∧ ((0 : Int) ≤ x2 ∧ x2 ≤ (List.length p_0 : Int) ∧ x2 = x2 ∧ (zet (List.take (Int.toNat x2) p_0) [[.n owner, .n 0, .n 0, .n 0, .n (IntKind.wrap .i64 (x1 + n))]] ∧ (zet (List.take (Int.toNat x2) p_0 ++ [[.n owner, .n 0, .n 0, .n 0, .n (IntKind.wrap .i64 (x1 + n))]]) (List.drop 1 (List.take (List.length (List.drop (Int.toNat x2) (List.take (List.length p_0) p_0))) (List.drop (Int.toNat x2) (List.take (List.length p_0) p_0)))) ∧ (Q (.t []) [.c [.w 1, .i (IntKind.wrap .i64 (p_1 + n))], .w 345 5 (List.take (Int.toNat x2) p_0 ++ [[.n owner, .n 0, .n 0, .n 0, .n (IntKind.wrap .i64 (x1 + n))]] ++ List.drop 1 (List.take (List.length (List.drop (Int.toNat x2) (List.take (List.length p_0) p_0))) (List.drop (Int.toNat x2) (List.take (List.length p_0) p_0))))]))))) else (0 : Int) ≤ x2 ∧ x2 ≤ (List.length p_0 : Int) ∧ x2 = x2 ∧ (zet (List.take (Int.toNat x2) p_0) [[.n owner, .n 0, .n 0, .n 0, .n (IntKind.wrap .i64 (x1 + n))]] ∧ (zet (List.take (Int.toNat x2) p_0 ++ [[.n owner, .n 0, .n 0, .n 0, .n (IntKind.wrap .i64 (x1 + n))]]) (List.drop (Int.toNat x2) (List.take (List.length p_0) p_0)) ∧ (Q (.t []) [.c [.w 1, .i (IntKind.wrap .i64 (p_1 + n))], .w 345 5 (List.take (Int.toNat x2) p_0 ++ [[.n owner, .n 0, .n 0, .n 0, .n (IntKind.wrap .i64 (x1 + n))]] ++ List.drop (Int.toNat x2) (List.take (List.length p_0) p_0))]))))) : Prop)))) → k1 x1) → PRun Tryz.prog 290 [] [.l 5 p_0, .a [.i owner, .i 0, .i 0, .i 0], .f 291 [] []] (post [.I, .B] [] (fun x3 b2 => (bif !b2 then k1 0 else elL p_0 x3 (fun r1 => dI .i64 (ug r1 4) (fun x4 => k1 x4)) : Prop)))) : PRun Tryz.prog 138 [.c [.l 5 p_0, .i p_1]] [.r 0 0, .i owner, .i n] Q :=
 zav mixTq Tryz.func138 (by kernel_rfl) (H := ⟨[], [((138, 1, 1), ⟨[(6, .I)], []⟩)], [133, 134, 135, 205, 226], [], [], false, 64, KN.no, false, SP.no⟩) (n := 5) (by kernel_rfl) hh
theorem S67 {p_0 : List (List U)} {p_1 : Int} {owner : Int} {n : Int} {Q : V → Mem → Prop} (hh : PRun Tryz.prog 136 [.c [.l 5 p_0, .i p_1]] [.r 0 0, .i owner] (post [.I, .I] [.c [.l 5, .i .i64]] (fun x1 x2 l1 x3 => (bif x2 != 0 then Q (.i x2) [.c [.l 5 l1, .i x3]] else (bif decide (n < 0) then Q (.i 1) [.c [.l 5 l1, .i x3]] else PRun Tryz.prog 137 [] [.i x3, .i n] (post [.I, .I] [] (fun x4 x5 => (bif x5 != 0 then Q (.i 5) [.c [.l 5 l1, .i x3]] else (bif decide (x4 > 1152921504606846976) then Q (.i 5) [.c [.l 5 l1, .i x3]] else PRun Tryz.prog 138 [.c [.l 5 l1, .i x3]] [.r 0 0, .i owner, .i n] (post [] [.c [.l 5, .i .i64]] (fun l2 x6 => (Q (.i 0) [.c [.l 5 l2, .i x6]] : Prop)))) : Prop)))) : Prop)))) : PRun Tryz.prog 67 [.c [.l 5 p_0, .i p_1]] [.r 0 0, .i owner, .i n] Q :=
 zav mixTq Tryz.func67 (by kernel_rfl) (H := ⟨[], [], [], [], [], false, 64, KN.no, false, SP.no⟩) (n := 2) (by kernel_rfl) hh
theorem S50 {p_0 : List (List U)} {p_1 : Int} {Q : V → Mem → Prop} (hh : ∃ (I1 : Int → List (List U) → Prop) (f1 : Int → List (List U) → Nat), I1 0 [] ∧ (∀ x1 : Int, ∀ l1 : List (List U), I1 x1 l1 → (bif decide (x1 < (List.length p_0 : Int)) then elL p_0 x1 (fun r1 => dI .i64 (ug r1 0) (fun x2 => dI .i64 (ug r1 1) (fun x3 => dI .i64 (ug r1 2) (fun x4 => dI .i64 (ug r1 3) (fun x5 => dI .i64 (ug r1 4) (fun x6 => zet l1 [[.n x2, .n x6]] ∧ (I1 (IntKind.wrap .i64 (x1 + 1)) (l1 ++ [[.n x2, .n x6]]) ∧ f1 (IntKind.wrap .i64 (x1 + 1)) (l1 ++ [[.n x2, .n x6]]) < f1 x1 l1))))))) else Q (.l 2 l1) [.c [.l 5 p_0, .i p_1]]))) : PRun Tryz.prog 50 [.c [.l 5 p_0, .i p_1]] [.r 0 0] Q :=
 zav mixTq Tryz.func50 (by kernel_rfl) (H := ⟨[((277, 1, 5), ⟨[(7, .I)], [(1, .c [.ow 104 2])]⟩)], [], [112, 204, 205, 277], [], [], false, 64, KN.no, false, SP.no⟩) (n := 4) (by kernel_rfl) hh
theorem S93 {l : List (List U)} {Q : V → Mem → Prop} (hh : ∃ (I1 : Bool → Int → List (List U) → Int → Prop) (f1 : Bool → Int → List (List U) → Int → Nat), I1 false 0 [] 0 ∧ (∀ b1 : Bool, ∀ x1 : Int, ∀ l1 : List (List U), ∀ x2 : Int, I1 b1 x1 l1 x2 → (bif decide (x1 < (List.length l : Int)) then elL l x1 (fun r1 => dI .i64 (ug r1 0) (fun x3 => dI .i64 (ug r1 1) (fun x4 => (bif decide (x4 < 0) then Q (.t [.u (.p none), .i 1]) [] else (bif decide (x4 > 1152921504606846976) then Q (.t [.u (.p none), .i 1]) [] else PRun Tryz.prog 66 [.c [.l 5 l1, .i x2]] [.r 0 0, .i x3] (post [.I] [.c [.l 5, .i .i64]] (fun x5 l2 x6 => (bif x5 != 0 then Q (.t [.u (.p none), .i 1]) [] else PRun Tryz.prog 67 [.c [.l 5 l2, .i x6]] [.r 0 0, .i x3, .i x4] (post [.I] [.c [.l 5, .i .i64]] (fun x7 l3 x8 => (bif x7 != 0 then I1 true (IntKind.wrap .i64 (x1 + 1)) l3 x8 ∧ f1 true (IntKind.wrap .i64 (x1 + 1)) l3 x8 < f1 b1 x1 l1 x2 else I1 b1 (IntKind.wrap .i64 (x1 + 1)) l3 x8 ∧ f1 b1 (IntKind.wrap .i64 (x1 + 1)) l3 x8 < f1 b1 x1 l1 x2 : Prop))) : Prop)))))))) else (bif b1 then Q (.t [.u (.p none), .i 5]) [] else Q (.t [.r 0 0, .i 0]) [.c [.l 5 l1, .i x2]])))) : PRun Tryz.prog 93 [] [.l 2 l] Q :=
 zav mixTq Tryz.func93 (by kernel_rfl) (H := ⟨[((93, 4, 1), ⟨[(5, .B), (12, .I)], [(0, .c [.l 5, .i .i64])]⟩)], [], [], [], [], false, 64, KN.no, false, SP.no⟩) (n := 2) (by kernel_rfl) hh
end
section
variable {Q : V → Mem → Prop}
abbrev oK (o : Int) : K4 := ⟨o, 0, 0, 0⟩
abbrev pC (l : Tb) (n : Int) : AB := .c [.l 5 (l.map eT), .i n]
theorem zj0 {k : K4} {l : Tb} {v : Int} (hs : Srt l) (h : zhh k l = some v) : l[zdy k l]? = some (k, v) := by
 have := tget_at (k := k) hs
 rw [h] at this
 split at this
 · rename_i r hr
   split at this
   · rename_i e
     cases this
     rw [hr, ← e]
   · cases this
 · cases this
theorem money_S {l : Tb} {n o : Int} (hs : Srt l) (hl : l.length ≤ 1000000) (k : Q (.t [.i (tval (oK o) l), .i (if (zhh (oK o) l).isSome then 0 else 3)]) [pC l n]) : PRun Tryz.prog 136 [pC l n] [.r 0 0, .i o] Q := by
 refine S136 (zhl (k := oK o) hs hl ?_)
 show (bif !(zhh (oK o) l).isSome then _ else _ : Prop)
 cases hg : zhh (oK o) l with
 | none =>
   simp only [tval, hg] at k
   exact k
 | some v =>
   have hr := zj0 hs hg
   have hlt := (List.getElem?_eq_some_iff.1 hr).1
   simp only [tval, hg, Option.getD_some, Option.isSome_some, if_true] at k
   show elL (l.map eT) (zdy (oK o) l : Nat) _
   rw [zbf (r := eT (oK o, v)) (by omega) (by simp [hr])]
   simp only [eT, ug0, ugs, ze6]
   exact k
theorem put_rows {k : K4} {v : Int} {l : Tb} (hs : Srt l) {b : Bool} (hb : b = (zhh k l).isSome) {K : List (List U) → Prop} (hl : l.length ≤ 1000000 - 1) (hK : K ((tput k v l).map eT)) :
 0 ≤ ((zdy k l : Nat) : Int) ∧ (((zdy k l : Nat) : Int) ≤ (List.length (l.map eT) : Int) ∧ (List.length (l.map eT) : Int) ≤ (List.length (l.map eT) : Int) ∧ (bif b then 0 ≤ (1 : Int) ∧ ((1 : Int) ≤ (List.length (List.drop (Int.toNat ((zdy k l : Nat) : Int)) (List.take (List.length (l.map eT)) (l.map eT))) : Int) ∧ (List.length (List.drop (Int.toNat ((zdy k l : Nat) : Int)) (List.take (List.length (l.map eT)) (l.map eT))) : Int) ≤ (List.length (List.drop (Int.toNat ((zdy k l : Nat) : Int)) (List.take (List.length (l.map eT)) (l.map eT))) : Int) ∧ ((0 : Int) ≤ ((zdy k l : Nat) : Int) ∧ ((zdy k l : Nat) : Int) ≤ (List.length (l.map eT) : Int) ∧ ((zdy k l : Nat) : Int) = ((zdy k l : Nat) : Int) ∧ (zet (List.take (Int.toNat ((zdy k l : Nat) : Int)) (l.map eT)) [[.n k.a, .n k.b, .n k.c, .n k.d, .n v]] ∧ (zet (List.take (Int.toNat ((zdy k l : Nat) : Int)) (l.map eT) ++ [[.n k.a, .n k.b, .n k.c, .n k.d, .n v]]) (List.drop 1 (List.take (List.length (List.drop (Int.toNat ((zdy k l : Nat) : Int)) (List.take (List.length (l.map eT)) (l.map eT)))) (List.drop (Int.toNat ((zdy k l : Nat) : Int)) (List.take (List.length (l.map eT)) (l.map eT))))) ∧ K (List.take (Int.toNat ((zdy k l : Nat) : Int)) (l.map eT) ++ [[.n k.a, .n k.b, .n k.c, .n k.d, .n v]] ++ List.drop 1 (List.take (List.length (List.drop (Int.toNat ((zdy k l : Nat) : Int)) (List.take (List.length (l.map eT)) (l.map eT)))) (List.drop (Int.toNat ((zdy k l : Nat) : Int)) (List.take (List.length (l.map eT)) (l.map eT))))))))) else (0 : Int) ≤ ((zdy k l : Nat) : Int) ∧ ((zdy k l : Nat) : Int) ≤ (List.length (l.map eT) : Int) ∧ ((zdy k l : Nat) : Int) = ((zdy k l : Nat) : Int) ∧ (zet (List.take (Int.toNat ((zdy k l : Nat) : Int)) (l.map eT)) [[.n k.a, .n k.b, .n k.c, .n k.d, .n v]] ∧ (zet (List.take (Int.toNat ((zdy k l : Nat) : Int)) (l.map eT) ++ [[.n k.a, .n k.b, .n k.c, .n k.d, .n v]]) (List.drop (Int.toNat ((zdy k l : Nat) : Int)) (List.take (List.length (l.map eT)) (l.map eT))) ∧ K (List.take (Int.toNat ((zdy k l : Nat) : Int)) (l.map eT) ++ [[.n k.a, .n k.b, .n k.c, .n k.d, .n v]] ++ List.drop (Int.toNat ((zdy k l : Nat) : Int)) (List.take (List.length (l.map eT)) (l.map eT))))))) := by
 have hp := tpos_le k l
 have e := tput_at (k := k) (v := v) hs
 have hr : eT (k, v) = [.n k.a, .n k.b, .n k.c, .n k.d, .n v] := rfl
 simp only [List.take_length, Int.toNat_natCast, List.length_map]
 refine ⟨by omega, by omega, Int.le_refl _, ?_⟩
 subst hb
 cases hg : (zhh k l).isSome with
 | true =>
   obtain ⟨w, hw⟩ := Option.isSome_iff_exists.1 hg
   have hlt := (List.getElem?_eq_some_iff.1 (zj0 hs hw)).1
   rw [hg] at e
   simp only [cond_true] at e ⊢
   rw [e, List.map_append, List.map_cons, List.map_take, List.map_drop, hr] at hK
   refine ⟨by omega, by simp; omega, by simp, by omega, by omega, trivial, ?_, ?_, ?_⟩
   · unfold zet; simp; omega
   · unfold zet; simp; omega
   · rw [List.drop_drop, List.append_assoc, List.take_of_length_le (show (l.map eT).length ≤ l.length by simp)]
     exact hK
 | false =>
   rw [hg] at e
   simp only [cond_false, Nat.add_zero] at e ⊢
   rw [e, List.map_append, List.map_cons, List.map_take, List.map_drop, hr] at hK
   refine ⟨by omega, by omega, trivial, ?_, ?_, ?_⟩
   · unfold zet; simp; omega
   · unfold zet; simp; omega
   · rw [List.append_assoc, List.take_of_length_le (show (l.map eT).length ≤ l.length by simp)]
     exact hK
def zlt (o : Int) (l : Tb) : Int := if o < 0 then 1 else if 1099511627776 < o then 1 else if (zhh (oK o) l).isSome then 9 else 0
def openL (o : Int) (l : Tb) : Tb := if zlt o l = 0 then tput (oK o) 0 l else l
theorem open_S {l : Tb} {n o : Int} (hs : Srt l) (hl : l.length ≤ 999999) (k : Q (.i (zlt o l)) [pC (openL o l) n]) : PRun Tryz.prog 66 [pC l n] [.r 0 0, .i o] Q := by
 refine PRun.trim (PRun.frz 0 0 (S66 ?_))
 unfold openL at k
 refine cIf (fun h => ?_) fun h => cIf (fun h2 => ?_) fun h2 => zhl (k := oK o) hs (by omega) ?_
 · have e : zlt o l = 1 := if_pos h
   rw [e] at k
   exact k
 · have e : zlt o l = 1 := by unfold zlt; rw [if_neg h, if_pos (show 1099511627776 < o from h2)]
   rw [e] at k
   exact k
 show (bif !(zhh (oK o) l).isSome then _ else _ : Prop)
 cases hg : zhh (oK o) l with
 | some v =>
   have e : zlt o l = 9 := by unfold zlt; rw [if_neg h, if_neg (show ¬ 1099511627776 < o from h2), hg]; rfl
   rw [e] at k
   have hr := zj0 hs hg
   show elL (l.map eT) (zdy (oK o) l : Nat) _
   rw [zbf (r := eT (oK o, v)) (by omega) (by simp [hr])]
   simp only [eT, ug0, ugs, ze6]
   exact k
 | none =>
   have e : zlt o l = 0 := by unfold zlt; rw [if_neg h, if_neg (show ¬ 1099511627776 < o from h2), hg]; rfl
   rw [e] at k
   refine zhl (k := oK o) hs (by omega) ?_
   exact put_rows (k := oK o) (v := 0) hs rfl (by omega) (K := fun rows => Q (.i 0) (trimL 1 (.i 0) (frzAt [.c [.w 1, .i n], .w 345 5 rows] 0 0))) k
theorem adds_S {l : Tb} {n o x : Int} (hs : Srt l) (hl : l.length ≤ 999999) (k : Q (.t []) [pC (tput (oK o) (IntKind.wrap .i64 (tval (oK o) l + x)) l) (IntKind.wrap .i64 (n + x))]) : PRun Tryz.prog 138 [pC l n] [.r 0 0, .i o, .i x] Q := by
 refine PRun.trim (PRun.frz 0 0 (S138 ?_))
 intro k1 hk1
 have main : k1 (tval (oK o) l) := by
  refine hk1 _ (zhl (k := oK o) hs (by omega) ?_)
  exact put_rows (k := oK o) (v := IntKind.wrap .i64 (tval (oK o) l + x)) hs rfl (by omega) (K := fun rows => Q (.t []) (trimL 1 (.t []) (frzAt [.c [.w 1, .i (IntKind.wrap .i64 (n + x))], .w 345 5 rows] 0 0))) k
 refine zhl (k := oK o) hs (by omega) ?_
 show (bif !(zhh (oK o) l).isSome then _ else _ : Prop)
 cases hg : zhh (oK o) l with
 | none =>
   simp only [tval, hg] at main
   exact main
 | some v =>
   have hr := zj0 hs hg
   simp only [tval, hg, Option.getD_some] at main
   show elL (l.map eT) (zdy (oK o) l : Nat) _
   rw [zbf (r := eT (oK o, v)) (by omega) (by simp [hr])]
   simp only [eT, ug0, ugs, ze6]
   exact main
end
section
variable {Q : V → Mem → Prop}
def accs (l : Tb) : List (List U) := l.map fun r => [.n r.1.a, .n r.2]
theorem plist_S {l : Tb} {n : Int} (hl : l.length ≤ 999999) (k : Q (.l 2 (accs l)) [pC l n]) : PRun Tryz.prog 50 [pC l n] [.r 0 0] Q := by
 have hlen : ((l.map eT).length : Int) = (l.length : Int) := by rw [List.length_map]
 refine S50 ⟨fun x o => ∃ i : Nat, x = (i : Int) ∧ i ≤ l.length ∧ o = accs (l.take i), fun x o => (l.length - x).toNat, ⟨0, rfl, Nat.zero_le _, rfl⟩, ?_⟩
 rintro _ _ ⟨i, rfl, hi, rfl⟩
 rw [hlen]
 refine cIf (fun h => ?_) fun h => ?_
 · have hlt : i < l.length := by omega
   rw [zbf (r := eT l[i]) (by omega) (by simp [hlt])]
   simp only [eT, ug0, ugs, ze6]
   have e1 : IntKind.wrap .i64 ((i : Int) + 1) = ((i + 1 : Nat) : Int) := by rw [w64 (by omega) (by omega)]; omega
   rw [e1]
   have e2 : accs (l.take i) ++ [[.n l[i].1.a, .n l[i].2]] = accs (l.take (i + 1)) := by
    unfold accs
    rw [List.take_succ_eq_append_getElem hlt, List.map_append]
    rfl
   refine ⟨?_, ⟨i + 1, rfl, by omega, e2⟩, by omega⟩
   unfold zet accs
   simp
   omega
 · have : i = l.length := by omega
   subst this
   rw [List.take_length]
   exact k
end
section
set_option maxRecDepth 100000
theorem mixIa5 : Tryz.prog.follows .mixedOrders = true := by kernel_rfl
theorem S9 {a_5 : List (List U)} {a_9 : List (List U)} {b_5 : List (List U)} {b_9 : List (List U)} {Q : V → Mem → Prop} (hh : PRun Tryz.prog 36 [] [.l 2 a_5, .l 2 b_5] (post [.B] [] (fun b1 => (bif !b1 then Q (.u (.s (ByteArray.mk #[97, 99, 99, 111, 117, 110, 116, 115]))) [] else PRun Tryz.prog 39 [] [.l 2 a_9, .l 2 b_9] (post [.B] [] (fun b2 => (bif !b2 then Q (.u (.s (ByteArray.mk #[108, 105, 110, 101, 115]))) [] else Q (.u (.s (ByteArray.mk #[]))) [] : Prop))) : Prop)))) : PRun Tryz.prog 9 [] [.a [.i 0, .i 0, .l 2 [], .l 2 [], .l 2 [], .l 2 a_5, .l 5 [], .l 9 [], .i 1, .l 2 a_9, .l 16 [], .l 19 [], .l 2 [], .l 3 [], .i 1, .l 4 []], .a [.i 0, .i 0, .l 2 [], .l 2 [], .l 2 [], .l 2 b_5, .l 5 [], .l 9 [], .i 1, .l 2 b_9, .l 16 [], .l 19 [], .l 2 [], .l 3 [], .i 1, .l 4 []]] Q :=
 zav mixIa5 Tryz.func9 (by kernel_rfl) (H := ⟨[], [], [28, 37, 38, 40, 41, 42, 43, 44], [], [], false, 64, KN.no, false, SP.no⟩) (n := 3) (by kernel_rfl) hh
theorem S36 {a : List (List U)} {b : List (List U)} {Q : V → Mem → Prop} (hh : bif (List.length a : Int) != (List.length b : Int) then Q (.u (.b false)) [] else ∃ (I1 : Int → Prop) (f1 : Int → Nat), I1 0 ∧ (∀ x1 : Int, I1 x1 → (bif decide (x1 < (List.length a : Int)) then (bif decide (x1 < (List.length b : Int)) then elL a x1 (fun r1 => dI .i64 (ug r1 0) (fun x2 => dI .i64 (ug r1 1) (fun x3 => elL b x1 (fun r2 => dI .i64 (ug r2 0) (fun x4 => dI .i64 (ug r2 1) (fun x5 => (bif !(x2 == x4 && (x3 == x5 && true)) then Q (.u (.b false)) [] else I1 (IntKind.wrap .i64 (x1 + 1)) ∧ f1 (IntKind.wrap .i64 (x1 + 1)) < f1 x1))))))) else Q (.u (.b true)) []) else Q (.u (.b true)) []))) : PRun Tryz.prog 36 [] [.l 2 a, .l 2 b] Q :=
 zav mixIa5 Tryz.func36 (by kernel_rfl) (H := ⟨[((36, 4, 0), ⟨[(5, .I)], []⟩)], [], [], [], [], false, 64, KN.no, false, SP.no⟩) (n := 2) (by kernel_rfl) hh
theorem S39 {a : List (List U)} {b : List (List U)} {Q : V → Mem → Prop} (hh : bif (List.length a : Int) != (List.length b : Int) then Q (.u (.b false)) [] else ∃ (I1 : Int → Prop) (f1 : Int → Nat), I1 0 ∧ (∀ x1 : Int, I1 x1 → (bif decide (x1 < (List.length a : Int)) then (bif decide (x1 < (List.length b : Int)) then elL a x1 (fun r1 => dL 1 (ug r1 0) (fun l1 => elL b x1 (fun r2 => dL 1 (ug r2 0) (fun l2 => PRun Tryz.prog 105 [] [.l 1 l1, .l 1 l2] (post [.B] [] (fun b1 => (bif !b1 then Q (.u (.b false)) [] else elL a x1 (fun r3 => dL 1 (ug r3 1) (fun l3 => elL b x1 (fun r4 => dL 1 (ug r4 1) (fun l4 => PRun Tryz.prog 105 [] [.l 1 l3, .l 1 l4] (post [.B] [] (fun b2 => (bif !b2 then Q (.u (.b false)) [] else I1 (IntKind.wrap .i64 (x1 + 1)) ∧ f1 (IntKind.wrap .i64 (x1 + 1)) < f1 x1 : Prop))))))) : Prop))))))) else Q (.u (.b true)) []) else Q (.u (.b true)) []))) : PRun Tryz.prog 39 [] [.l 2 a, .l 2 b] Q :=
 zav mixIa5 Tryz.func39 (by kernel_rfl) (H := ⟨[((39, 4, 0), ⟨[(5, .I)], []⟩)], [], [], [], [], false, 64, KN.no, false, SP.no⟩) (n := 2) (by kernel_rfl) hh
theorem S307 {s1q : List (List U)} {s2q : List (List U)} {Q : V → Mem → Prop} (hh : bif (List.length s1q : Int) != (List.length s2q : Int) then Q (.u (.b false)) [] else ∃ (I1 : Int → Prop) (f1 : Int → Nat), I1 0 ∧ (∀ x1 : Int, I1 x1 → (bif decide (x1 < (List.length s1q : Int)) then elL s1q x1 (fun r1 => dI .i64 (ug r1 0) (fun x2 => dI .i64 (ug r1 1) (fun x3 => elL s2q x1 (fun r2 => dI .i64 (ug r2 0) (fun x4 => dI .i64 (ug r2 1) (fun x5 => (bif !(x2 == x4 && (x3 == x5 && true)) then Q (.u (.b false)) [] else I1 (IntKind.wrap .i64 (x1 + 1)) ∧ f1 (IntKind.wrap .i64 (x1 + 1)) < f1 x1))))))) else Q (.u (.b true)) []))) : PRun Tryz.prog 307 [] [.l 2 s1q, .l 2 s2q] Q :=
 zav mixIa5 Tryz.func307 (by kernel_rfl) (H := ⟨[((307, 4, 0), ⟨[(13, .I)], []⟩)], [], [], [], [], false, 64, KN.no, false, SP.no⟩) (n := 2) (by kernel_rfl) hh
end
section
set_option maxRecDepth 100000
theorem mixIa4 : Tryz.prog.follows .mixedOrders = true := by kernel_rfl
theorem S10 {c_0 : Int} {c_1 : List (List U)} {c_2 : Int} {c_3 : List (List U)} {c_4 : Int} {c_5 : Int} {c_6 : Int} {c_7 : Int} {X1 : Ob} {X2 : Ob} {Q : V → Mem → Prop} (hh : (dup2 (PRun Tryz.prog 49 [] [.l 2 []] (post [.L 2, .I] [] (fun l1 x1 => (PRun Tryz.prog 49 [] [.l 2 []] (post [.L 2, .I] [] (fun l2 x2 => (PRun Tryz.prog 49 [] [.l 2 []] (post [.L 2, .I] [] (fun l3 x3 => (PRun Tryz.prog 50 [.o X1] [.r 0 0] (post [.L 2] [.A] (fun l4 X1 => (PRun Tryz.prog 114 [.o X2] [.r 0 0] (post [.L 2] [.A] (fun l5 X2 => (PRun Tryz.prog 57 [.c [.l 3 [], .m 1, .i 256, .i 1], .p .n 1 false []] [.r 0 0] (post [.L 3] [.c [.l 3, .m 1, .i .i64, .i .i64], .mp .n 1 false] (fun l6 l7 x4 x5 m1 => (PRun Tryz.prog 121 [] [.l 4 []] (post [.L 4] [] (fun l8 => (Q (.a [.i 0, .i 0, .l 2 l1, .l 2 l2, .l 2 l3, .l 2 l4, .l 5 [], .l 9 [], .i 1, .l 2 l5, .l 16 [], .l 19 [], .l 2 [], .l 3 l6, .i 1, .l 4 l8]) [.c [.r 1 0, .r 2 0, .r 3 0, .r 5 0, .r 6 0, .r 7 0, .r 10 0, .i 0, .l 2 [], .l 2 [], .l 2 [], .i c_0, .l 7 c_1, .i c_2, .l 4 c_3, .i c_4, .i c_5, .i c_6, .i c_7, .i 0], .o X1, .c [.nl 5, .n .i64 33 (List.replicate 33 0)], .c [.l 3 l7, .m 4, .i x4, .i x5], .p .n 1 false m1, .c [.nl 4, .nm], .c [.nl 1], .c [.i c_0, .l 7 c_1, .i c_2, .l 4 c_3, .i c_4, .i c_5, .i c_6, .i c_7, .r 1 0, .r 2 0, .r 3 0, .r 5 0, .r 8 0, .r 9 0, .l 16 []], .c [.nl 13, .i 0], .o X2, .c [.i c_0, .l 7 c_1, .i c_2, .l 4 c_3, .i c_4, .i c_5, .i c_6, .i c_7, .r 1 0, .r 2 0, .r 3 0, .r 5 0, .l 19 []]] : Prop))) : Prop))) : Prop))) : Prop))) : Prop))) : Prop))) : Prop))))) ∧ (PRun Tryz.prog 49 [] [.l 2 []] (post [.L 2, .I] [] (fun l1 x1 => (PRun Tryz.prog 49 [] [.l 2 []] (post [.L 2, .I] [] (fun l2 x2 => (PRun Tryz.prog 49 [] [.l 2 []] (post [.L 2, .I] [] (fun l3 x3 => (PRun Tryz.prog 50 [.o X1] [.r 0 0] (post [.L 2] [.A] (fun l4 X1 => (PRun Tryz.prog 114 [.o X2] [.r 0 0] (post [.L 2] [.A] (fun l5 X2 => (PRun Tryz.prog 57 [.c [.l 3 [], .m 1, .i 256, .i 1], .p .n 1 false []] [.r 0 0] (post [.L 3] [.c [.l 3, .m 1, .i .i64, .i .i64], .mp .n 1 false] (fun l6 l7 x4 x5 m1 => (PRun Tryz.prog 121 [] [.l 4 []] (post [.L 4] [] (fun l8 => (Q (.a [.i 0, .i 0, .l 2 l1, .l 2 l2, .l 2 l3, .l 2 l4, .l 5 [], .l 9 [], .i 1, .l 2 l5, .l 16 [], .l 19 [], .l 2 [], .l 3 l6, .i 1, .l 4 l8]) [.c [.r 1 0, .r 2 0, .r 3 0, .r 5 0, .r 6 0, .r 7 0, .r 10 0, .i 0, .l 2 [], .l 2 [], .l 2 [], .i c_0, .l 7 c_1, .i c_2, .l 4 c_3, .i c_4, .i c_5, .i c_6, .i c_7, .i 0], .o X1, .c [.nl 5, .n .i64 33 (List.replicate 33 0)], .c [.l 3 l7, .m 4, .i x4, .i x5], .p .n 1 false m1, .c [.nl 4, .nm], .c [.nl 1], .c [.i c_0, .l 7 c_1, .i c_2, .l 4 c_3, .i c_4, .i c_5, .i c_6, .i c_7, .r 1 0, .r 2 0, .r 3 0, .r 5 0, .r 8 0, .r 9 0, .l 16 []], .c [.nl 13, .i 0], .o X2, .c [.i c_0, .l 7 c_1, .i c_2, .l 4 c_3, .i c_4, .i c_5, .i c_6, .i c_7, .r 1 0, .r 2 0, .r 3 0, .r 5 0, .l 19 []]] : Prop))) : Prop))) : Prop))) : Prop))) : Prop))) : Prop))) : Prop))))) : PRun Tryz.prog 10 [.c [.r 1 0, .r 2 0, .r 3 0, .r 5 0, .r 6 0, .r 7 0, .r 10 0, .i 0, .l 2 [], .l 2 [], .l 2 [], .i c_0, .l 7 c_1, .i c_2, .l 4 c_3, .i c_4, .i c_5, .i c_6, .i c_7, .i 0], .o X1, .c [.nl 5, .n .i64 33 (List.replicate 33 0)], .c [.nl 3, .m 4, .i 256, .i 1], .p .n 1 false [], .c [.nl 4, .nm], .c [.nl 1], .c [.i c_0, .l 7 c_1, .i c_2, .l 4 c_3, .i c_4, .i c_5, .i c_6, .i c_7, .r 1 0, .r 2 0, .r 3 0, .r 5 0, .r 8 0, .r 9 0, .l 16 []], .c [.nl 13, .i 0], .o X2, .c [.i c_0, .l 7 c_1, .i c_2, .l 4 c_3, .i c_4, .i c_5, .i c_6, .i c_7, .r 1 0, .r 2 0, .r 3 0, .r 5 0, .l 19 []]] [.r 0 0] Q :=
 zav mixIa4 Tryz.func10 (by kernel_rfl) (H := ⟨[], [], [45, 46, 47, 48, 51, 52, 53, 54, 55, 56, 58, 78, 109, 112, 113, 115, 204, 205, 207, 208, 277, 278], [], [], false, 64, KN.no, false, SP.no⟩) (n := 5) (by kernel_rfl) hh
end
section
variable {P : Program} {D D' : Fz} {ρ ρ' : List Loc} {m m' : Mem} {chs C : List zac} {h h' : zab} {ro hr : List Nat}
theorem zb1 {ops : Array Oper} {Q : Exit → Act → World → Prop} {o : Oper} {rest : List Oper} {a : Act} {w : World} {r : Option Nat} {n : Nat} (hg : o.guard = none) (hh : o.wpIn (FW r) n P a w (wpListIn (FW r) n P ops Q rest) Q) : wpListIn (FW r) n P ops Q (o :: rest) a w := by
 unfold wpListIn
 rw [if_pos (by simp [Region.wanted, hg])]
 exact hh
theorem zay {a : Act} {l : List Value} {d : Option Tmp} {v : Value} (h : a.tmps.toList = l) : (a.put d v).tmps.toList = lput l d v := by rw [zcb, h]
theorem znt {ops : Array Oper} {Q : Exit → Act → World → Prop} {a : Act} {w : World} {r : Option Nat} {n : Nat} (hh : Q .normal a w) : wpListIn (FW r) n P ops Q [] a w := hh
theorem SAt.cget (M : SAt D ρ m chs C h) {b : Nat} {o : Obj} (hm : [(b, o)] ∈ C) : h[b]? = some o :=
 M.st.own (b, o) (List.mem_flatten.2 ⟨_, List.mem_append.2 (.inr hm), List.mem_singleton_self _⟩)
theorem w_run {o : Oper} {a : Act} {w : World} {next : Act → World → Prop} {Q : Exit → Act → World → Prop} {r : Option Nat} {n : Nat} {v : Value} (hd : zce o = false) (h : (execOp (ev a.tmps.toList) o).run P w = .ok (.value v) w) (hn : next (a.put o.dst v) w) : o.wpIn (FW r) n P a w next Q :=
 op_in0 hd (by unfold Oper.wp; rw [za0, h]; exact hn)
theorem w_eff {o : Oper} {a : Act} {w : World} {next : Act → World → Prop} {Q : Exit → Act → World → Prop} {r : Option Nat} {n : Nat} {K : Value → zab → Prop} (hd : zce o = false) (h : effK P ⟨[], [], []⟩ a.tmps.toList o w.heap K) (hn : ∀ v w', K v w'.heap → Same w w' → next (a.put o.dst v) w') : o.wpIn (FW r) n P a w next Q :=
 op_in0 hd (zgh (SWp.r (zcf h)) (za0 a) rfl hn)
theorem w_load {T : TypeId} {z : Value} (hl : zdn P T = some (.one z)) {t : List Value} {x : Operand} {b : Nat} {v : Value} {E : TypeId} {w : World} {dst : Option Tmp} {ty : TypeId} {pos : String} {after : Array Edge} {guard : Option (Nat × Bool)} (hx : ev t x = .pointer (some ⟨b, 0, none⟩)) (hb : w.heap[b]? = some (.cells #[v] E (0, 0))) :
 (execOp (ev t) ⟨dst, .load T x, ty, pos, after, guard⟩).run P w = .ok (.value v) w := by
 have := zgt (P := P) hl (b := b) (o := 0) (v := v) (w := w) (by rw [zao hb]; rfl)
 simp [execOp, Instr.loadAt, Instr.sureAddr, hx, this]
theorem w_store {T : TypeId} {z : Value} (hl : zdn P T = some (.one z)) {a : Act} {w : World} {x y : Operand} {b : Nat} {u v : Value} {E : TypeId} {dst : Option Tmp} {ty : TypeId} {pos : String} {after : Array Edge} {guard : Option (Nat × Bool)} {C1 C2 : List zac} (hx : ev a.tmps.toList x = .pointer (some ⟨b, 0, none⟩)) (hy : ev a.tmps.toList y = v) (hs : single v = true)
 (M : SAt D ρ m chs (C1 ++ [(b, .cells #[u] E (0, 0))] :: C2) w.heap) {next : Act → World → Prop} {Q : Exit → Act → World → Prop} {r : Option Nat} {n : Nat} (hn : ∀ w', SAt D ρ m chs (C1 ++ [(b, .cells #[v] E (0, 0))] :: C2) w'.heap → Same w w' → next (a.put dst undef) w') :
 (⟨dst, .store T x y, ty, pos, after, guard⟩ : Oper).wpIn (FW r) n P a w next Q := by
 refine w_eff (K := fun v' h' => v' = undef ∧ SAt D ρ m chs (C1 ++ [(b, .cells #[v] E (0, 0))] :: C2) h') rfl ?_ ?_
 · simp only [effK, hx, hy, zhj, hl]
   have hq : ∀ v : Value, (([(b, Obj.cells #[v] E (0, 0))] :: (chs ++ (C1 ++ C2))).flatten).Perm (chs ++ (C1 ++ [(b, .cells #[v] E (0, 0))] :: C2)).flatten := fun v => by
    simp only [List.flatten_append, List.flatten_cons]
    exact (List.perm_append_comm_assoc _ _ _).trans ((List.perm_append_comm_assoc _ _ _).append_left _)
   have S := M.st.perm (hq u).symm
   have S' : St D ([(b, .cells ⟨[u]⟩ E (0, 0))] :: (chs ++ (C1 ++ C2))) w.heap := S
   exact zeb (S'.sk0 (v := v) (o := 0) rfl hs fun h' S2 => ⟨trivial, M.mono (.refl D) (St.perm S2 (hq v))⟩)
 · rintro v' w' ⟨rfl, M'⟩ s
   exact hn w' M' s
theorem w_call {g : FuncId} {a : Act} {w : World} {x : Operand} {args : Array Operand} {tys : Array TypeId} {f c : Array Value} {vs : List Value} {dst : Option Tmp} {ty : TypeId} {pos : String} {after : Array Edge} {guard : Option (Nat × Bool)} {K : Value → zab → Prop} {next : Act → World → Prop} {Q : Exit → Act → World → Prop} {r : Option Nat} {n : Nat}
 (hx : ev a.tmps.toList x = .func (.func g) f c) (hv : (f ++ args.map (ev a.tmps.toList) ++ c).toList = vs) (hrun : Run P g vs w.heap K) (hn : ∀ v w', K v w'.heap → Same w w' → next (a.put dst v) w') : (⟨dst, .call ⟨.value x, args, tys⟩, ty, pos, after, guard⟩ : Oper).wpIn (FW r) n P a w next Q := by
 subst hv
 refine op_in0 rfl (zgh (K := K) (SWp.r ?_) (za0 a) rfl hn)
 simp only [execOp, resolve, hx, Deferred.ofValue]
 exact zqb hrun.1 hrun
theorem w_defer {a : Act} {w : World} {x : Operand} {f : Fn} {p c : Array Value} {tys : Array TypeId} {d : Deferred} {dst : Option Tmp} {ty : TypeId} {pos : String} {after : Array Edge} {guard : Option (Nat × Bool)} {next : Act → World → Prop} {Q : Exit → Act → World → Prop} {n : Nat}
 (hx : ev a.tmps.toList x = .func f p c) (hd : ({ target := .fn f c, args := p } : Deferred) = d) (hn : next (({ a with defers := d :: a.defers } : Act).put dst undef) w) : (⟨dst, .defer ⟨.value x, #[], tys⟩, ty, pos, after, guard⟩ : Oper).wpIn (FW none) n P a w next Q := by
 refine ⟨fun _ _ => trivial, ?_⟩
 rw [show (FW none).round = none from rfl, Oper.semAt_none, za0]
 simp only [execOp, resolve, hx, Deferred.ofValue]
 subst hd
 simp
 exact hn
def okE (e : V) (A : Prop) : Prop :=
 match e with
 | .u (.i .i64 (.ofNat 0)) => A
 | _ => False
def zk4 (ro : List Nat) (call : zb8) (G : FuncId) (args : List V) (m : Mem) (K : V → Mem → Prop) : Option Prop :=
 cond (Nat.beq G 163) (match args with
  | [.r b o, .f g a c] => some (call 245 [.r b o] m fun x m1 => cond (zjt x) (call g (a ++ c) m1 (gcQ (some m.length) fun e m2 => okE e (K e m2))) False)
  | _ => some False) none
theorem okE_S {e : V} {A : Prop} (h : okE e A) : e = .u (.i .i64 0) ∧ A := by
 unfold okE at h
 split at h
 · exact ⟨rfl, h⟩
 · exact h.elim
structure WhP (P : Program) : Prop where
 fw : P.funcs[163]? = some Tryz.f163
 fc : P.funcs[246]? = some Tryz.f246
 nw : ((Tryz.f163).name == "runtime.NumGoroutine") = false
 nc : ((Tryz.f246).name == "runtime.NumGoroutine") = false
 tp : zdn P 67 = some (.one (.pointer none))
 te : zdn P 48 = some (.one (.int .i64 0))
 ze : (P.info? 48).bind (·.zero) = some (.int .i64 0)
 zp : (P.info? 67).bind (·.zero) = some (.pointer none)
 un : P.underlying 67 = some (.pointer 229)
theorem whp : WhP Tryz.prog := ⟨Tryz.func163, Tryz.func246, by kernel_rfl, by kernel_rfl, by kernel_rfl, by kernel_rfl, by kernel_rfl, by kernel_rfl, by kernel_rfl⟩
theorem whole_S (hP : WhP P) {X : Fz → List Loc → Prop} {call : zb8} (hX : Stab X) (hcall : zgr P X ro hr call) {b o : Nat} {g : FuncId} {a c : List V} {KS : V → Mem → Prop} {vs : List Value}
 (M0 : m.length = ρ.length) (hs : call 245 [.r b o] m fun x m1 => cond (zjt x) (call g (a ++ c) m1 (gcQ (some m.length) fun e m2 => okE e (KS e m2))) False) (xx : X D ρ) (M : SAt D ρ m chs C h) (ha : RpL D ρ vs [.r b o, .f g a c]) : Run P 163 vs h (zcy ro hr D ρ m chs C KS) := by
 cases ha with
 | cons h1 ha2 =>
 cases ha2 with
 | cons h2 ha3 =>
 cases ha3
 obtain ⟨L, hL, rfl⟩ := h1.r_inv
 obtain ⟨xs, ys, rfl, hxs, hys⟩ := h2.f_inv
 refine ⟨⟨Tryz.f163, hP.fw, hP.nw, rfl⟩, fun w hw => ?_⟩
 subst hw
 refine (callsIn_wide (n := 0)).1 (callsIn_of_wp_marks (F := FW none) hP.fw rfl trivial ?_)
 generalize hB : Value.pointer (some ⟨L.b, o, none⟩) = vB at *
 generalize hF : Value.func (.func g) xs.toArray ys.toArray = vF at *
 -- the frame
 have e0 : ((#[vB, vF] : Array Value) ++ Array.replicate ((Tryz.f163).ntmps - #[vB, vF].size) undef).toList = [vB, vF, undef, undef, undef, undef, undef, undef, undef, undef, undef, undef, undef] := rfl
 generalize h0 : ({ tmps := [vB, vF].toArray ++ Array.replicate ((Tryz.f163).ntmps - [vB, vF].toArray.size) undef, defers := [] } : Act) = a0
 have f0 : a0.tmps.toList = [vB, vF, undef, undef, undef, undef, undef, undef, undef, undef, undef, undef, undef] := by rw [← h0]; exact e0
 have d0 : a0.defers = [] := by rw [← h0]
 clear h0 e0
 have cB : vB.cells = #[vB] := by rw [← hB]; rfl
 -- region 0
 refine wpIn_seq (wpIn_region_list ?_)
 refine zb1 rfl ?_
 refine w_eff (K := fun v h' => ∃ b2, v = .pointer (some ⟨b2, 0, none⟩) ∧ SAt D ρ m chs ([(b2, .cells #[vB] 67 (0, 0))] :: C) h') rfl ?_ ?_
 · simp only [effK, f0]
   exact ⟨_, rfl, by rw [show (ev [vB, vF, undef, undef, undef, undef, undef, undef, undef, undef, undef, undef, undef] (.tmp 0)).cells = #[vB] from cB]; exact M.cpush _⟩
 rintro _ w1 ⟨b2, rfl, M1⟩ s1
 have f1 := zay (d := some 2) (v := (.pointer (some ⟨b2, 0, none⟩))) f0
 have d1 : (a0.put (some 2) (.pointer (some ⟨b2, 0, none⟩))).defers = [] := by rw [zaj, d0]
 generalize a0.put (some 2) (.pointer (some ⟨b2, 0, none⟩)) = a1 at f1 d1 ⊢
 refine zb1 rfl ?_
 refine w_eff (K := fun v h' => ∃ b4, v = .pointer (some ⟨b4, 0, none⟩) ∧ SAt D ρ m chs ([(b4, .cells #[.int .i64 0] 48 (0, 0))] :: [(b2, .cells #[vB] 67 (0, 0))] :: C) h') rfl ?_ ?_
 · simp only [effK]
   rw [hP.ze]
   exact ⟨_, rfl, M1.cpush _⟩
 rintro _ w2 ⟨b4, rfl, M2⟩ s2
 have f2 := zay (d := some 4) (v := (.pointer (some ⟨b4, 0, none⟩))) f1
 have d2 : (a1.put (some 4) (.pointer (some ⟨b4, 0, none⟩))).defers = [] := by rw [zaj, d1]
 generalize a1.put (some 4) (.pointer (some ⟨b4, 0, none⟩)) = a2 at f2 d2 ⊢
 refine znt ?_
 -- region 1, the test
 refine wpIn_seq (wpIn_seq (wpIn_region_list (zb1 rfl ?_)))
 refine w_run rfl (w_load hP.tp (b := b2) (v := vB) (E := 67) (by rw [f2]; rfl) (M2.cget (by simp))) ?_
 have f3 := zay (d := some 6) (v := vB) f2
 have d3 : (a2.put (some 6) vB).defers = [] := by rw [zaj, d2]
 generalize a2.put (some 6) vB = a3 at f3 d3 ⊢
 refine zb1 rfl ?_
 obtain ⟨vc, hvc, hrc⟩ := zmv (P := P) (op := .eql) (T := 67) (x := .tmp 6) (y := .const (.pointer none)) (a := vB) (b := .pointer none) (K := fun v => v = .bool false) (by rw [← hB]; simp only [binK, hP.un]; rfl)
 subst hvc
 refine w_run (v := .bool false) rfl ?_ ?_
 · have e1 : ev a3.tmps.toList (.tmp 6) = vB := by rw [f3]; rfl
   have e2 : ev a3.tmps.toList (.const (.pointer none)) = .pointer none := rfl
   simp only [execOp, e1, e2]
   rw [Sem.run_bind, hrc]
   rfl
 have f4 := zay (d := some 7) (v := (.bool false)) f3
 have d4 : (a3.put (some 7) (.bool false)).defers = [] := by rw [zaj, d3]
 generalize a3.put (some 7) (.bool false) = a4 at f4 d4 ⊢
 refine znt ?_
 refine wpIn_cond_false (by rw [za0, f4]; rfl) (wpIn_skip ?_)
 -- region 3: the clone
 refine wpIn_seq (wpIn_region_list (zb1 rfl ?_))
 refine w_run rfl (w_load hP.tp (b := b2) (v := vB) (E := 67) (by rw [f4]; rfl) (M2.cget (by simp))) ?_
 have f5 := zay (d := some 8) (v := vB) f4
 have d5 : (a4.put (some 8) vB).defers = [] := by rw [zaj, d4]
 generalize a4.put (some 8) vB = a5 at f5 d5 ⊢
 refine zb1 rfl ?_
 have hrun1 := hcall (vs := [vB]) xx hs M2 (by rw [← hB]; exact .cons (.r hL) .nil)
 refine w_call (g := 245) (f := #[]) (c := #[]) (vs := [vB]) rfl (by rw [f5]; simp; rfl) hrun1 ?_
 rintro v9 w3 ⟨D1, ρ1, m1, c1, x1, n1, M3, hx1, hk1⟩ s3
 obtain ⟨hp1, hk1⟩ := zaa hk1
 obtain ⟨p9, rfl⟩ := hx1.ptr hp1
 have f6 := zay (d := some 9) (v := .pointer (some p9)) f5
 have d6 : (a5.put (some 9) (.pointer (some p9))).defers = [] := by rw [zaj, d5]
 generalize a5.put (some 9) (.pointer (some p9)) = a6 at f6 d6 ⊢
 refine zb1 rfl ?_
 refine w_eff (K := fun v h' => ∃ b5, v = .pointer (some ⟨b5, 0, none⟩) ∧ SAt D1 ρ1 m1 c1 ([(b5, .cells #[.pointer none] 67 (0, 0))] :: [(b4, .cells #[.int .i64 0] 48 (0, 0))] :: [(b2, .cells #[vB] 67 (0, 0))] :: C) h') rfl ?_ ?_
 · simp only [effK]
   rw [hP.zp]
   exact ⟨_, rfl, M3.cpush _⟩
 rintro _ w4 ⟨b5, rfl, M4⟩ s4
 have f7 := zay (d := some 5) (v := .pointer (some ⟨b5, 0, none⟩)) f6
 have d7 : (a6.put (some 5) (.pointer (some ⟨b5, 0, none⟩))).defers = [] := by rw [zaj, d6]
 generalize a6.put (some 5) (.pointer (some ⟨b5, 0, none⟩)) = a7 at f7 d7 ⊢
 refine zb1 rfl ?_
 refine w_store hP.tp (C1 := []) (b := b5) (u := .pointer none) (v := .pointer (some p9)) (by rw [f7]; rfl) (by rw [f7]; rfl) rfl M4 ?_
 intro w5 M5 s5
 have f8 := zay (d := none) (v := undef) f7
 have d8 : (a7.put none undef).defers = [] := by rw [zaj, d7]
 generalize a7.put none undef = a8 at f8 d8 ⊢
 refine znt ?_
 -- region 4: what is deferred
 refine wpIn_seq (wpIn_region_list (zb1 rfl ?_))
 refine w_run (v := .func (.func 246) #[] #[.pointer (some ⟨b4, 0, none⟩), .pointer (some ⟨b5, 0, none⟩), .pointer (some ⟨b2, 0, none⟩)]) rfl ?_ ?_
 · simp only [execOp, Instr.makeFunc, f8, List.map_toArray, List.map_cons, List.map_nil]; rfl
 have f9 := zay (d := some 10) (v := .func (.func 246) #[] #[.pointer (some ⟨b4, 0, none⟩), .pointer (some ⟨b5, 0, none⟩), .pointer (some ⟨b2, 0, none⟩)]) f8
 have d9 : (a8.put (some 10) (.func (.func 246) #[] #[.pointer (some ⟨b4, 0, none⟩), .pointer (some ⟨b5, 0, none⟩), .pointer (some ⟨b2, 0, none⟩)])).defers = [] := by rw [zaj, d8]
 generalize a8.put (some 10) (.func (.func 246) #[] #[.pointer (some ⟨b4, 0, none⟩), .pointer (some ⟨b5, 0, none⟩), .pointer (some ⟨b2, 0, none⟩)]) = a9 at f9 d9 ⊢
 refine zb1 rfl ?_
 generalize hd : ({ target := .fn (.func 246) #[.pointer (some ⟨b4, 0, none⟩), .pointer (some ⟨b5, 0, none⟩), .pointer (some ⟨b2, 0, none⟩)], args := #[] } : Deferred) = dd
 refine w_defer (f := .func 246) (p := #[]) (c := #[.pointer (some ⟨b4, 0, none⟩), .pointer (some ⟨b5, 0, none⟩), .pointer (some ⟨b2, 0, none⟩)]) (d := dd) (by rw [f9]; rfl) hd ?_
 have f10 := zay (a := { a9 with defers := dd :: a9.defers }) (d := none) (v := undef) f9
 have d10 : (({ a9 with defers := dd :: a9.defers } : Act).put none undef).defers = [dd] := by rw [zaj, d9]
 generalize ({ a9 with defers := dd :: a9.defers } : Act).put none undef = a10 at f10 d10 ⊢
 refine znt ?_
 -- region 5: the call
 refine wpIn_seq (wpIn_region_list (zb1 rfl ?_))
 refine w_run (v := vF) rfl ?_ ?_
 · simp only [execOp, f10]; rfl
 have f11 := zay (d := some 11) (v := vF) f10
 have d11 : (a10.put (some 11) vF).defers = [dd] := by rw [zaj, d10]
 generalize a10.put (some 11) vF = a11 at f11 d11 ⊢
 refine zb1 rfl ?_
 have hrun2 := hcall (hX.nx n1 xx) hk1 M5 (n1.rpL (hxs.app hys))
 refine w_call (g := g) (f := xs.toArray) (c := ys.toArray) (vs := xs ++ ys) (by rw [f11, ← hF]; rfl) (by simp) hrun2 ?_
 rintro v12 w6 ⟨D2, ρ2, m2, c2, x2, n2, M6, hx2, hk2⟩ s6
 obtain ⟨ρ3, m3, c3, t3, n3, M7, F7, hk3⟩ := zp9 M (K := fun t m2 => okE (zdx t 0) (KS (zdx t 0) m2) ∨ okE (wkV (zdx t 0)) (KS (wkV (zdx t 0)) m2)) hk2 (n1.trans n2) M6 (.cons hx2 .nil)
 have hk4 : zdx t3 0 = .u (.i .i64 0) ∧ KS (.u (.i .i64 0)) m3 := by
  rcases hk3 with hk3 | hk3
  · obtain ⟨e, k⟩ := okE_S hk3; rw [e] at k; exact ⟨e, k⟩
  · obtain ⟨e, k⟩ := okE_S hk3
    rw [e] at k
    refine ⟨?_, k⟩
    revert e
    cases zdx t3 0 <;> intro e <;> first | exact e | cases e
 have e12 : v12 = .int .i64 0 := by
  have hv : Rp D2 ρ3 v12 (zdx t3 0) := by cases F7 with | cons h1 _ => exact h1
  rw [hk4.1] at hv
  cases hv with
  | u hr => cases hr; rfl
 subst e12
 have f12 := zay (d := some 12) (v := .int .i64 0) f11
 have d12 : (a11.put (some 12) (.int .i64 0)).defers = [dd] := by rw [zaj, d11]
 generalize a11.put (some 12) (.int .i64 0) = a12 at f12 d12 ⊢
 refine zb1 rfl ?_
 refine w_store hP.te (C1 := [_]) (b := b4) (u := .int .i64 0) (v := .int .i64 0) (by rw [f12]; rfl) (by rw [f12]; rfl) rfl M7 ?_
 intro w7 M8 s7
 have f13 := zay (d := none) (v := undef) f12
 have d13 : (a12.put none undef).defers = [dd] := by rw [zaj, d12]
 generalize a12.put none undef = a13 at f13 d13 ⊢
 refine znt (wpIn_ret ?_)
 -- the door
 show LeavesInM _ _ P _ a13.tmps _ a13.defers .returning w7
 rw [d13, ← hd]
 have ss := s1.trans (s2.trans (s3.trans (s4.trans (s5.trans (s6.trans s7)))))
 refine ⟨by simp, .inr ⟨(by intro h; cases h), _, _, _, _, rfl, zff ⟨_, hP.fc, hP.nc, rfl⟩ _ _, fun _ _ => trivial, (callsDIn_of_wp (R := fun e w' => e = .returned (.tuple #[]) ∧ w' = w7) hP.fc rfl trivial ?_).mono ?_⟩⟩
 · generalize h0 : ({ tmps := #[] ++ #[Value.pointer (some ⟨b4, 0, none⟩), .pointer (some ⟨b5, 0, none⟩), .pointer (some ⟨b2, 0, none⟩)] ++ Array.replicate ((Tryz.f246).ntmps - (#[] ++ #[Value.pointer (some ⟨b4, 0, none⟩), .pointer (some ⟨b5, 0, none⟩), .pointer (some ⟨b2, 0, none⟩)]).size) undef, defers := [] } : Act) = q0
   have g0 : q0.tmps.toList = [Value.pointer (some ⟨b4, 0, none⟩), .pointer (some ⟨b5, 0, none⟩), .pointer (some ⟨b2, 0, none⟩), undef, undef, undef, undef, undef, undef, undef] := by rw [← h0]; rfl
   have k0 : q0.defers = [] := by rw [← h0]
   clear h0
   refine wpIn_seq (wpIn_region_list (zb1 rfl ?_))
   refine w_run rfl (w_load hP.te (b := b4) (v := .int .i64 0) (E := 48) (by rw [g0]; rfl) (M8.cget (by simp))) ?_
   have g1 := zay (d := some 3) (v := .int .i64 0) g0
   have k1 : (q0.put (some 3) (.int .i64 0)).defers = [] := by rw [zaj, k0]
   generalize q0.put (some 3) (.int .i64 0) = q1 at g1 k1 ⊢
   refine zb1 rfl ?_
   obtain ⟨vd, hvd, hrd⟩ := zmv (P := P) (op := .neq) (T := 48) (x := .tmp 3) (y := .const (.int .i64 0)) (a := .int .i64 0) (b := .int .i64 0) (K := fun v => v = .bool false) rfl
   subst hvd
   refine w_run (v := .bool false) rfl ?_ ?_
   · have e1 : ev q1.tmps.toList (.tmp 3) = .int .i64 0 := by rw [g1]; rfl
     have e2 : ev q1.tmps.toList (.const (.int .i64 0)) = .int .i64 0 := rfl
     simp only [execOp, e1, e2]
     rw [Sem.run_bind, hrd]
     rfl
   have g2 := zay (d := some 4) (v := .bool false) g1
   have k2 : (q1.put (some 4) (.bool false)).defers = [] := by rw [zaj, k1]
   generalize q1.put (some 4) (.bool false) = q2 at g2 k2 ⊢
   refine znt ?_
   refine wpIn_cond_false (by rw [za0, g2]; rfl) (wpIn_skip ?_)
   exact ⟨k2, .tuple #[], by simp [results], rfl, rfl⟩
 · rintro e u' w' ⟨rfl, rfl, rfl⟩
   have hb4 := M8.cget (b := b4) (o := .cells #[.int .i64 0] 48 (0, 0)) (by simp)
   obtain ⟨v, hv, hr⟩ := zgv (P := P) (fn := Tryz.f163) (tmps := a13.tmps) rfl (h := w'.heap) (R := fun v _ => v = .int .i64 0) (by
    rw [f13]
    show loadK P 48 (some ⟨b4, 0, none⟩) w'.heap _
    unfold loadK
    rw [hP.te]
    exact ⟨_, by rw [zao hb4]; rfl, rfl⟩)
   subst hv
   refine ⟨_, hr w' rfl, _, rfl, ⟨D2, ρ3, m3, c3, .u (.i .i64 0), n3, M8.cdrop.cdrop.cdrop, .u (by constructor), hk4.2⟩, ss⟩
theorem wholeF_S (hP : WhP P) {X : Fz → List Loc → Prop} {call : zb8} (hX : Stab X) (hcall : zgr P X ro hr call) {G : FuncId} {args : List V} {KS : V → Mem → Prop} {p : Prop} (hs : zk4 (hr ++ ro) call G args m KS = some p) (hp : p) {vs : List Value} (xx : X D ρ) (M : SAt D ρ m chs C h) (ha : RpL D ρ vs args) : Run P G vs h (zcy ro hr D ρ m chs C KS) := by
 unfold zk4 at hs
 cases hb : Nat.beq G 163 with
 | false => rw [hb] at hs; cases hs
 | true =>
   rw [hb] at hs
   have := Nat.eq_of_beq_eq_true hb
   subst this
   simp only [cond_true] at hs
   split at hs
   · simp only [Option.some.injEq] at hs
     subst hs
     exact whole_S hP hX hcall M.len.symm hp xx M ha
   · simp only [Option.some.injEq] at hs
     subst hs
     exact hp.elim
def spWhole (hP : WhP P) : SP P where  -- 163
 f := zk4
 ok := by
  intro ro hr X call hX hcall g args m KS p hs hp D ρ chs C h vs xx M ha
  exact wholeF_S hP hX hcall hs hp xx M ha
def okEE (r : V × Mem) : Option Out :=
 match r.1 with
 | .u (.i .i64 (.ofNat 0)) => some [(.u (.i .i64 (.ofNat 0)), r.2)]
 | _ => none
theorem okEE_ok {r : V × Mem} {l : Out} {K : V → Mem → Prop} (h : okEE r = some l) (hK : ∀ x ∈ l, K x.1 x.2) : okE r.1 (K r.1 r.2) := by
 obtain ⟨x, m⟩ := r
 unfold okEE at h
 dsimp only at h
 split at h
 · cases h
   exact hK (.u (.i .i64 (.ofNat 0)), m) (by simp)
 · cases h
noncomputable def zqt (ro : List Nat) (callE : zer) (G : FuncId) (args : List V) (m : Mem) : Option (Option Out) :=
 cond (Nat.beq G 163) (match args with
  | [.r b o, .f g a c] => some (zfy (callE 245 [.r b o] m) fun r1 => cond (zjt r1.1) (zfy (callE g (zfh a c) r1.2) fun r2 => match gcVF (zde m) r2 with
    | some r3 => okEE r3
    | none => none) none)
  | _ => some none) none
theorem wholeE_ok {callE : zer} {call : zb8} (hc : zef callE call) {g : FuncId} {args : List V} {rs : Out} {K : V → Mem → Prop} (h : zqt ro callE g args m = some (some rs)) (hK : ∀ r ∈ rs, K r.1 r.2) : ∃ p, zk4 ro call g args m K = some p ∧ p := by
 unfold zqt at h
 unfold zk4
 cases hb : Nat.beq g 163 with
 | false => rw [hb] at h; cases h
 | true =>
   rw [hb] at h
   simp only [cond_true] at h ⊢
   split at h
   · rename_i b o g' a c
     refine ⟨_, rfl, ?_⟩
     simp only [Option.some.injEq] at h
     obtain ⟨l1, h1, h2⟩ := zbd h
     refine hc h1 fun r1 hr1 => ?_
     obtain ⟨l2, h3, h4⟩ := h2 r1 hr1
     obtain ⟨h5, h6⟩ := zaf h3
     rw [h5]
     simp only [cond_true]
     obtain ⟨l3, h7, h8⟩ := zbd h6
     rw [za9] at h7
     refine hc h7 fun r2 hr2 => ?_
     obtain ⟨l4, h9, h10⟩ := h8 r2 hr2
     split at h9
     · rename_i r3 h11
       rw [zax] at h11
       exact gcVF_ok (K := fun e m2 => okE e (K e m2)) h11 (.inl (okEE_ok h9 fun x hx => hK x (h4 x (h10 x hx))))
     · cases h9
   · cases h
theorem wholeE_no {callE : zer} {call : zb8} {g : FuncId} {args : List V} {K : V → Mem → Prop} (h : zqt ro callE g args m = none) : zk4 ro call g args m K = none := by
 unfold zqt at h
 unfold zk4
 cases hb : Nat.beq g 163 with
 | false => rfl
 | true =>
   rw [hb] at h
   simp only [cond_true] at h
   split at h <;> cases h
noncomputable def za1 (hP : WhP P) : SPE P where  -- 163
 sp := spWhole hP
 e := zqt
 ok := by
  intro ro callE call hc g args m rs K h hK
  exact wholeE_ok hc h hK
 no := by
  intro ro callE call g args m K h
  exact wholeE_no h
end
section
variable {P : Program} {D D' : Fz} {ρ ρ' : List Loc} {m m' : Mem} {chs C : List zac} {h h' : zab} {ro hr : List Nat}
def overL : Mem → List Nat → List AB → Mem
 | m, j :: js, a :: al => overL (ms m j a) js al
 | m, _, _ => m
theorem overL_len : ∀ (js : List Nat) (al : List AB) (m : Mem), (overL m js al).length = m.length
 | [], al, m => by cases al <;> rfl
 | j :: js, [], m => rfl
 | j :: js, a :: al, m => by simp only [overL]; rw [overL_len js al, zck]
theorem overL_S : ∀ {js : List Nat} {al : List AB} {cs : List zac} {m : Mem} {c : List zac}, js.length = al.length → cs.length = al.length → SAt D ρ m c (cs ++ C) h → js.Nodup →
 (∀ (i j : Nat) (a : AB) (ch : zac), js[i]? = some j → al[i]? = some a → cs[i]? = some ch → j < m.length ∧ ∃ L, ρ[j]? = some L ∧ Ent D ρ L a ch) →
 ∃ c', SAt D ρ (overL m js al) c' C h ∧ ∀ b, b ∉ js → c'[b]? = c[b]? ∧ mg (overL m js al) b = mg m b
 | [], [], cs, m, c, h1, h2, M, hn, he => by
   have : cs = [] := List.eq_nil_of_length_eq_zero (by simpa using h2)
   subst this
   exact ⟨c, M, fun b _ => ⟨rfl, rfl⟩⟩
 | j :: js, a :: al, ch :: cs, m, c, h1, h2, M, hn, he => by
   obtain ⟨hj, L, hL, hE⟩ := he 0 j a ch rfl rfl rfl
   have M2 : SAt D ρ (ms m j a) (c.set j ch) (cs ++ C) h := M.over hj hL hE
   have hn2 := List.nodup_cons.1 hn
   obtain ⟨c', M3, g⟩ := overL_S (js := js) (al := al) (cs := cs) (by simpa using h1) (by simpa using h2) M2 hn2.2 fun i j' a' ch' q1 q2 q3 => by
    obtain ⟨w1, w2⟩ := he (i + 1) j' a' ch' (by simpa using q1) (by simpa using q2) (by simpa using q3)
    exact ⟨by rw [zck]; exact w1, w2⟩
   refine ⟨c', M3, fun b hb => ?_⟩
   simp only [List.mem_cons, not_or] at hb
   obtain ⟨g1, g2⟩ := g b hb.2
   refine ⟨by rw [g1, List.getElem?_set_ne (Ne.symm hb.1)], ?_⟩
   simp only [overL]
   rw [g2, zbv (Ne.symm hb.1)]
 | [], _ :: _, _, _, _, h1, _, _, _, _ => by simp at h1
 | _ :: _, [], _, _, _, h1, _, _, _, _ => by simp at h1
 | _ :: _, _ :: _, [], _, _, _, h2, _, _, _ => by simp at h2
def fK (ix : List Nat) (n i : Nat) : Nat := cond (Nat.ble (i + 1) ix.length) (nthN ix i) (n + (i - ix.length))
def znq (m : Mem) (ix : List Nat) (M' : Mem) : Mem :=
 overL (zdo m ix ++ List.replicate (M'.length - ix.length) .x) (ix ++ List.range' m.length (M'.length - ix.length)) (M'.map (renA (fK ix m.length)))
theorem fK_lt {ix : List Nat} {n i b : Nat} (h : ix[i]? = some b) : fK ix n i = b := by
 have : i < ix.length := by
  rcases Nat.lt_or_ge i ix.length with h1 | h1
  · exact h1
  · rw [List.getElem?_eq_none h1] at h; cases h
 unfold fK
 rw [Nat.ble_eq_true_of_le this, cond_true]
 exact zpc h
theorem fK_ge {ix : List Nat} {n k : Nat} : fK ix n (ix.length + k) = n + k := by
 unfold fK
 have : Nat.ble (ix.length + k + 1) ix.length = false := by
  cases e : Nat.ble (ix.length + k + 1) ix.length with
  | false => rfl
  | true => have := Nat.le_of_ble_eq_true e; omega
 rw [this, cond_false]; omega
def KnP (P : Program) (ro : List Nat) (g : FuncId) (args : List V) (m : Mem) (K : V → Mem → Prop) : Prop :=
 ∃ (ix : List Nat) (R : V) (M' : Mem), ix.Nodup ∧ (∀ b ∈ ix, b < m.length ∧ b ∉ ro) ∧ (∀ b ∈ ix, ∀ c ∈ zci (mg m b), c ∈ ix) ∧ (∀ b ∈ zak args, b ∈ ix) ∧
   PRun P g (znv m ix) (zes (fun b => zjd ix b 0) args) (fun x m' => x = R ∧ m' = M') ∧ K (zch (fK ix m.length) R) (znq m ix M')
theorem xs_S : ∀ (k : Nat) {ρ : List Loc} {m : Mem} {chs C : List zac} {s : List Loc}, SAt D ρ m chs C h → s.length = k → SAt D (ρ ++ s) (m ++ List.replicate k .x) (chs ++ List.replicate k []) C h
 | 0, ρ, m, chs, C, s, M, hs => by
   have : s = [] := List.eq_nil_of_length_eq_zero hs
   subst this
   simpa using M
 | k + 1, ρ, m, chs, C, [], M, hs => by simp at hs
 | k + 1, ρ, m, chs, C, L :: s, M, hs => by
   have M1 : SAt D (ρ ++ [L]) (m ++ [.x]) (chs ++ [[]]) C h := SAt.push (ch := []) ⟨M.len, M.lch, M.ent, by
    have := M.st
    refine this.perm ?_
    simp⟩ .x
   have := xs_S k (s := s) M1 (by simpa using hs)
   simpa [List.append_assoc, List.replicate_succ] using this
theorem known_S {X : Fz → List Loc → Prop} {g : FuncId} {args : List V} {KS : V → Mem → Prop} (hs : KnP P (hr ++ ro) g args m KS) {vs : List Value} (M : SAt D ρ m chs C h) (ha : RpL D ρ vs args) : Run P g vs h (zcy ro hr D ρ m chs C KS) := by
 obtain ⟨ix, R, M', hnd, hb, hcl, har, hrun, hK⟩ := hs
 obtain ⟨c', cs, hcs, Mk, gk, Ms⟩ := M.sub2 hnd (fun b h => (hb b h).1) hcl
 have ra' := (ren_all (D := D) (ρ := ρ) (f := fun b => zjd ix b 0) (ρ' := ix.map fun b => (ρ[b]?).getD ⟨0, none, 0, 0, none⟩)).2.1 ha fun b hb L hL => by
  obtain ⟨k, h4, h5⟩ := zga (k := 0) (har b hb)
  rw [h4, Nat.zero_add, List.getElem?_map, h5, Option.map_some, hL]; rfl
 refine (hrun D _ cs (c' ++ C) h vs Ms ra').mono ?_
 rintro v h' ⟨D2, s, cs2, x, m', le, Ms2, hv, rfl, rfl⟩
 -- al many blocks al places
 have l1 := Ms2.len
 have l2 := Ms2.lch
 simp only [List.length_append, List.length_map] at l1
 have hk : m'.length - ix.length = s.length := by omega
 have Mk2 : SAt D2 ρ (zdo m ix) c' (cs2 ++ C) h' := ⟨Mk.len, Mk.lch, fun i L ab ch q1 q2 q3 => by have := (Mk.ent i L ab ch q1 q2 q3).mono le (s := []); rwa [List.append_nil] at this, Ms2.st.perm (by
  simp only [List.flatten_append]
  exact List.perm_append_comm_assoc _ _ _)⟩
 have Mx := xs_S (m'.length - ix.length) (s := s) Mk2 hk.symm
 have lm : (zdo m ix).length = m.length := zhz _ _
 have fin : ∀ {i : Nat} {L : Loc}, ((ix.map fun b => (ρ[b]?).getD ⟨0, none, 0, 0, none⟩) ++ s)[i]? = some L → (ρ ++ s)[fK ix m.length i]? = some L := by
  intro i L hL
  rcases Nat.lt_or_ge i ix.length with hi | hi
  · have e := List.getElem?_eq_getElem hi
    rw [List.getElem?_append_left (by simpa using hi), List.getElem?_map, e, Option.map_some] at hL
    rw [fK_lt e]
    have hlt : ix[i] < ρ.length := by rw [M.len]; exact (hb _ (List.getElem_mem hi)).1
    rw [List.getElem?_append_left hlt, List.getElem?_eq_getElem hlt]
    rw [List.getElem?_eq_getElem hlt, Option.getD_some] at hL
    exact hL
  · obtain ⟨k, rfl⟩ := Nat.exists_eq_add_of_le hi
    rw [List.getElem?_append_right (by simp)] at hL
    rw [fK_ge, List.getElem?_append_right (by rw [M.len]; omega)]
    have e1 : m.length + k - ρ.length = k := by rw [M.len]; omega
    have e2 : ix.length + k - (ix.map fun b => (ρ[b]?).getD ⟨0, none, 0, 0, none⟩).length = k := by simp
    rw [e2] at hL
    rw [e1]; exact hL
 have hjs : ∀ (i j : Nat), (ix ++ List.range' m.length (m'.length - ix.length))[i]? = some j → i < m'.length ∧ j = fK ix m.length i ∧ j < m.length + (m'.length - ix.length) := by
  intro i j hj
  rcases Nat.lt_or_ge i ix.length with hi | hi
  · rw [List.getElem?_append_left hi] at hj
    exact ⟨by omega, (fK_lt hj).symm, by have := (hb j (List.mem_of_getElem? hj)).1; omega⟩
  · obtain ⟨k, rfl⟩ := Nat.exists_eq_add_of_le hi
    rw [List.getElem?_append_right (by omega)] at hj
    have hk2 : ix.length + k - ix.length < m'.length - ix.length := by
     rcases Nat.lt_or_ge (ix.length + k - ix.length) (m'.length - ix.length) with q | q
     · exact q
     · rw [List.getElem?_eq_none (by simpa using q)] at hj; cases hj
    rw [List.getElem?_range' hk2] at hj
    simp only [Option.some.injEq] at hj
    rw [fK_ge]
    omega
 obtain ⟨c2, M3, g3⟩ := overL_S (js := ix ++ List.range' m.length (m'.length - ix.length)) (al := m'.map (renA (fK ix m.length))) (cs := cs2) (by simp; omega) (by simp [l2]) Mx (by
  refine List.nodup_append.2 ⟨hnd, List.nodup_range', ?_⟩
  intro a ha b hb2 e
  subst e
  have := (hb a ha).1
  have := List.mem_range'_1.1 hb2
  omega) fun i j a ch q1 q2 q3 => by
  obtain ⟨hi, rfl, hlt⟩ := hjs i j q1
  refine ⟨by simp only [List.length_append, List.length_replicate, lm]; exact hlt, ?_⟩
  simp only [List.getElem?_map] at q2
  obtain ⟨a0, ha0, rfl⟩ := Option.map_eq_some_iff.1 q2
  have hiL : i < ((ix.map fun b => (ρ[b]?).getD ⟨0, none, 0, 0, none⟩) ++ s).length := by simp; omega
  have e := List.getElem?_eq_getElem hiL
  exact ⟨_, fin e, (Ms2.ent i _ a0 ch e ha0 q3).ren fun b _ L hL => fin hL⟩
 have hv3 := (ren_all (D := D2) (f := fK ix m.length) (ρ' := ρ ++ s)).1 hv fun b _ L hL => fin hL
 refine ⟨D2, ρ ++ s, _, c2, _, ⟨le, ⟨s, rfl⟩, fun b h1 h2 => ?_, fun b h1 h2 => ?_, ?_⟩, M3, hv3, hK⟩
 · have hni : b ∉ ix := fun hbi => (hb b hbi).2 (List.mem_append.2 (.inl (inL_iff.1 h1)))
   have hnj : b ∉ ix ++ List.range' m.length (m'.length - ix.length) := by
    intro hh
    rcases List.mem_append.1 hh with q | q
    · exact hni q
    · have := List.mem_range'_1.1 q; omega
   rw [(g3 b hnj).1, List.getElem?_append_left (by rw [Mk.lch, lm]; exact h2), (gk b hni).1]
 · have hni : b ∉ ix := fun hbi => (hb b hbi).2 (inL_iff.1 h1)
   have hnj : b ∉ ix ++ List.range' m.length (m'.length - ix.length) := by
    intro hh
    rcases List.mem_append.1 hh with q | q
    · exact hni q
    · have := List.mem_range'_1.1 q; omega
   have := (g3 b hnj).2
   show mg (overL _ _ _) b = _
   rw [this, zob (by rw [lm]; exact h2), (gk b hni).2]
 · rw [overL_len]
   simp only [List.length_append, lm]; omega
def spKn (S : SP P) (Gs : List Nat) : SP P where
 f ro call g args m K := cond (inL Gs g) (some (KnP P ro g args m K)) (S.f ro call g args m K)
 ok := by
  intro ro hr X call hX hcall g args m KS p hs hp D ρ chs C h vs xx M ha
  cases hg : inL Gs g with
  | true =>
    rw [hg] at hs
    simp only [cond_true, Option.some.injEq] at hs
    subst hs
    exact known_S (X := X) hp M ha
  | false => rw [hg] at hs; exact S.ok hX hcall hs hp xx M ha
noncomputable def zcz (E : SPE P) (Gs : List Nat) : SPE P where
 sp := spKn E.sp Gs
 e ro callE g args m := cond (inL Gs g) (some none) (E.e ro callE g args m)
 ok := by
  intro ro callE call hc g args m rs K h hK
  cases hg : inL Gs g with
  | true => rw [hg] at h; cases h
  | false =>
    rw [hg] at h
    obtain ⟨p, h3, h4⟩ := E.ok hc h hK
    exact ⟨p, by show cond (inL Gs g) _ _ = _; rw [hg]; exact h3, h4⟩
 no := by
  intro ro callE call g args m K h
  cases hg : inL Gs g with
  | true => rw [hg] at h; cases h
  | false => rw [hg] at h; show cond (inL Gs g) _ _ = _; rw [hg]; exact E.no h
variable {E : SPE P} {inl : List Nat} {nl n fi : Nat}
structure Ev (P : Program) (E : SPE P) (inl : List Nat) (nl n fi : Nat) (c : Code) (t : Fr) (m : Mem) (rs : zg7) : Prop where
 go : ∀ {Q : zeq}, (∀ r ∈ rs, Q r.1 r.2.1.l r.2.2) → vcC P (HE E inl nl) (zg9 P (HE E inl nl) n) fi c .out [] [] Q t.l m
theorem Ev.code {c : Code} {t : Fr} {m : Mem} {rs : zg7} (h : CodeE P E inl nl n c t m = some rs) : Ev P E inl nl n fi c t m rs :=
 ⟨fun hQ => cCode_ok (selfE := runF P E inl nl n) (self := zg9 P (HE E inl nl) n) (zlh n) c (Y := .out) (Z := .out) trivial h hQ⟩
theorem Ev.seq {x y : Code} {t t1 : Fr} {m m1 : Mem} {rs : zg7} (hx : Ev P E inl nl n fi x t m [(.nrm, t1, m1)]) (hy : Ev P E inl nl n fi y t1 m1 rs) : Ev P E inl nl n fi (.seq x y) t m rs := by
 refine ⟨fun {Q} hQ => ?_⟩
 have fj : ∀ a b c, findH (HE E inl nl).jo a b c = none := fun a b c => rfl
 simp only [vcC, fj]
 exact hx.go fun r hr => by rw [List.mem_singleton.1 hr]; exact hy.go hQ
theorem Ev.pieces : ∀ {k : Nat} {c : Code} {t t1 : Fr} {m m1 : Mem} {rs : zg7}, evK P E inl nl n k c t m = some (t1, m1) → Ev P E inl nl n fi (zjv k c) t1 m1 rs → Ev P E inl nl n fi c t m rs
 | 0, c, t, t1, m, m1, rs, h, hy => by cases h; exact hy
 | k + 1, .seq x y, t, t1, m, m1, rs, h, hy => by
   simp only [evK] at h
   split at h
   · rename_i t2 m2 h2
     exact Ev.seq (Ev.code h2) (Ev.pieces h hy)
   · cases h
 | _ + 1, .skip, _, _, _, _, _, h, _ => by simp [evK] at h
 | _ + 1, .region .., _, _, _, _, _, h, _ => by simp [evK] at h
 | _ + 1, .cond .., _, _, _, _, _, h, _ => by simp [evK] at h
 | _ + 1, .block .., _, _, _, _, _, h, _ => by simp [evK] at h
 | _ + 1, .loop .., _, _, _, _, _, h, _ => by simp [evK] at h
 | _ + 1, .exit .., _, _, _, _, _, h, _ => by simp [evK] at h
 | _ + 1, .ret, _, _, _, _, _, h, _ => by simp [evK] at h
 | _ + 1, .scope .., _, _, _, _, _, h, _ => by simp [evK] at h
 | _ + 1, .label .., _, _, _, _, _, h, _ => by simp [evK] at h
 | _ + 1, .rangeFunc .., _, _, _, _, _, h, _ => by simp [evK] at h
 | _ + 1, .goto .., _, _, _, _, _, h, _ => by simp [evK] at h
theorem zhu {vw : Bool} {call : zb8} {yh : Nat → List V → Mem → (V → Mem → Prop) → Prop} {ops : List Oper} {K : List V → Mem → Prop} : ∀ (l1 l2 : List Oper) (t : List V) (m : Mem),
 zea P vw ro call yh ops K (l1 ++ l2) t m = zea P vw ro call yh ops (fun t m => zea P vw ro call yh ops K l2 t m) l1 t m
 | [], l2, t, m => rfl
 | o :: l1, l2, t, m => by
   simp only [List.cons_append, zea, zhu l1 l2]
theorem cond_brk {b : Bool} {x y : Code} {c : Operand} {t : Fr} {m : Mem} {rs : zg7} (hc : (zeg c).e t = .u (.b b)) (h : Ev P E inl nl n fi (cond b x y) t m rs) : Ev P E inl nl n fi (.cond c x y) t m rs := by
 refine ⟨fun {Q} hQ => ?_⟩
 rw [zbk] at hc
 simp only [vcC]
 rw [hc]
 have := h.go hQ
 cases b <;> exact this
end
section
variable {P : Program} {E S : SPE P} {inl Gs : List Nat} {nl n fi : Nat}
def cSeq : Code → Bool
 | .seq .. => true
 | _ => false
def cL : Code → Code
 | .seq x _ => x
 | c => c
def cR : Code → Code
 | .seq _ y => y
 | c => c
theorem cSeq_eq {c : Code} (h : cSeq c = true) : c = .seq (cL c) (cR c) := by cases c <;> first | rfl | cases h
theorem Ev.seqP {c : Code} {t t1 : Fr} {m m1 : Mem} {rs : zg7} (hs : cSeq c = true) (hx : Ev P E inl nl n fi (cL c) t m [(.nrm, t1, m1)]) (hy : Ev P E inl nl n fi (cR c) t1 m1 rs) : Ev P E inl nl n fi c t m rs := by
 rw [cSeq_eq hs]; exact Ev.seq hx hy
theorem Ev.seqE {c : Code} {t t1 : Fr} {m m1 : Mem} {e : Ex} (he : e ≠ .nrm) (hs : cSeq c = true) (hx : Ev P E inl nl n fi (cL c) t m [(e, t1, m1)]) : Ev P E inl nl n fi c t m [(e, t1, m1)] := by
 rw [cSeq_eq hs]
 refine ⟨fun {Q} hQ => ?_⟩
 have fj : ∀ a b c, findH (HE E inl nl).jo a b c = none := fun a b c => rfl
 simp only [vcC, fj]
 refine hx.go fun r hr => ?_
 rw [List.mem_singleton.1 hr]
 have := hQ _ (List.mem_singleton_self _)
 cases e with
 | nrm => exact absurd rfl he
 | ret => exact this
 | ext j => exact this
def cCond : Code → Bool
 | .cond .. => true
 | _ => false
def cO : Code → Operand
 | .cond c _ _ => c
 | _ => .tmp 0
def cT : Code → Code
 | .cond _ x _ => x
 | c => c
def cF : Code → Code
 | .cond _ _ y => y
 | c => c
theorem cCond_eq {c : Code} (h : cCond c = true) : c = .cond (cO c) (cT c) (cF c) := by cases c <;> first | rfl | cases h
theorem Ev.condT {c : Code} {t : Fr} {m : Mem} {rs : zg7} (hs : cCond c = true) (hc : (zeg (cO c)).e t = .u (.b true)) (h : Ev P E inl nl n fi (cT c) t m rs) : Ev P E inl nl n fi c t m rs := by
 rw [cCond_eq hs]; exact cond_brk hc h
theorem Ev.condF {c : Code} {t : Fr} {m : Mem} {rs : zg7} (hs : cCond c = true) (hc : (zeg (cO c)).e t = .u (.b false)) (h : Ev P E inl nl n fi (cF c) t m rs) : Ev P E inl nl n fi c t m rs := by
 rw [cCond_eq hs]; exact cond_brk hc h
def cBlk : Code → Bool
 | .block .. => true
 | _ => false
def cBd : Code → Code
 | .block _ c => c
 | c => c
def cId : Code → Nat
 | .block i _ => i
 | _ => 0
theorem cBlk_eq {c : Code} (h : cBlk c = true) : c = .block (cId c) (cBd c) := by cases c <;> first | rfl | cases h
def blkE (id : Nat) : Ex → Ex
 | .ext j => cond (Nat.beq j id) .nrm (.ext j)
 | e => e
theorem Ev.blockP {c : Code} {t t1 : Fr} {m m1 : Mem} {e e2 : Ex} (hs : cBlk c = true) (he : blkE (cId c) e = e2) (h : Ev P E inl nl n fi (cBd c) t m [(e, t1, m1)]) : Ev P E inl nl n fi c t m [(e2, t1, m1)] := by
 rw [cBlk_eq hs]
 refine ⟨fun {Q} hQ => ?_⟩
 simp only [vcC]
 refine h.go fun r hr => ?_
 rw [List.mem_singleton.1 hr]
 have := hQ _ (List.mem_singleton_self _)
 subst he
 cases e with
 | nrm => exact this
 | ret => exact this
 | ext j =>
   simp only [blockS]
   simp only [blkE] at this
   cases hb : Nat.beq j (cId c) with
   | true => rw [hb] at this; exact this
   | false => rw [hb] at this; exact this
def cReg : Code → Bool
 | .region _ _ false => true
 | _ => false
def cOp : Code → List Oper
 | .region _ ops _ => ops.toList
 | _ => []
def zb6 : List Oper → Nat → Oper
 | o :: _, 0 => o
 | _ :: l, n + 1 => zb6 l n
 | [], _ => ⟨none, .move (.tmp 0), 0, "", #[], none⟩
def zn6 (o : Oper) : Bool :=
 match o.op with
 | .call ⟨.value _, _, _⟩ => true
 | _ => false
def opF (o : Oper) : Operand :=
 match o.op with
 | .call ⟨.value f, _, _⟩ => f
 | _ => .tmp 0
def opArgs (o : Oper) : List Operand :=
 match o.op with
 | .call ⟨.value _, l, _⟩ => l.toList
 | _ => []
theorem zgd : ∀ {l : List Oper} {k : Nat}, k < l.length → l = l.take k ++ zb6 l k :: l.drop (k + 1)
 | [], k, h => by simp at h
 | o :: l, 0, h => rfl
 | o :: l, k + 1, h => by
   show o :: l = o :: (l.take k ++ zb6 l k :: l.drop (k + 1))
   rw [← zgd (by simpa using h)]
def okIx (ix : List Nat) (args : List V) (m : Mem) : Bool := zia m.length ix && ze8 ix (zak args) && ze8 ix (ix.flatMap fun b => zci (mg m b))
noncomputable abbrev regE (P : Program) (E : SPE P) (inl : List Nat) (nl n : Nat) (L l : List Oper) (t : Fr) (m : Mem) : Option zbb := (cOps P L l).r [] (zjy P E inl (runF P E inl nl n .out) [] []) ((YE.out).h [] []) t m
structure EvO (P : Program) (E : SPE P) (inl : List Nat) (nl n : Nat) (L l : List Oper) (t : Fr) (m : Mem) (outs : zbb) : Prop where
 go : ∀ {K : List V → Mem → Prop}, (∀ x ∈ outs, K x.1.l x.2) → zea P true [] (zdu P (HE E inl nl) (zg9 P (HE E inl nl) n .out) [] []) (YC.out.h [] []) L K l t.l m
theorem zqc : zef (zjy P E inl (runF P E inl nl n .out) [] []) (zdu P (HE E inl nl) (zg9 P (HE E inl nl) n .out) [] []) :=
 zkd (n := nl) (selfE := runF P E inl nl n .out) (self := zg9 P (HE E inl nl) n .out) (zlh n (Y := .out) (Z := .out) trivial)
theorem yhOk0 : YhOk ((YE.out).h [] []) (YC.out.h [] []) := YE.Ok.yh (Y := .out) (Z := .out) trivial
theorem EvO.ops {L l : List Oper} {t : Fr} {m : Mem} {outs : zbb} (h : regE P E inl nl n L l t m = some outs) : EvO P E inl nl n L l t m outs :=
 ⟨fun hK => zg3 zqc yhOk0 h hK⟩
theorem Ev.reg {c : Code} {t : Fr} {m : Mem} {outs : zbb} (hr : cReg c = true) (hd : ((cOp c).all fun o => !zce o) = true) (h : EvO P E inl nl n (cOp c) (cOp c) t m outs) : Ev P E inl nl n fi c t m (nrmR outs) := by
 obtain ⟨id, ops, rfl⟩ : ∃ id ops, c = .region id ops false := by cases c <;> first | (rename_i d; cases d <;> first | exact ⟨_, _, rfl⟩ | cases hr) | cases hr
 refine ⟨fun {Q} hQ => ?_⟩
 simp only [cOp] at *
 simp only [vcC]
 rw [hd]
 simp only [cond_true, cond_false]
 exact h.go (K := Q .nrm) fun x hx => hQ (.nrm, x.1, x.2) (List.mem_map.2 ⟨x, hx, rfl⟩)
theorem EvO.op {L l : List Oper} {k : Nat} {t t1 t2 : Fr} {m m1 : Mem} {outs : zbb} {v : V} (hk : Nat.ble (k + 1) l.length = true)
 (h1 : regE P E inl nl n L (l.take k) t m = some [(t1, m1)]) (hg : (cG L (zb6 l k)).g t1 = some (true, t2))
 (hy : zbm t2.l (zb6 l k) = none) (hq : zgn (zb6 l k) = true) (hst : strO P (zb6 l k) = false) (hv : (cQ P (zb6 l k)).q t2 m1 = some v)
 (h2 : EvO P E inl nl n L (l.drop (k + 1)) ((zfx (zb6 l k).dst).p t2 v) m1 outs) : EvO P E inl nl n L l t m outs := by
 refine ⟨fun {K} hK => ?_⟩
 have hl := zgd (Nat.le_of_ble_eq_true hk)
 suffices hs : zea P true [] (zdu P (HE E inl nl) (zg9 P (HE E inl nl) n .out) [] []) (YC.out.h [] []) L K (l.take k ++ zb6 l k :: l.drop (k + 1)) t.l m by rw [← hl] at hs; exact hs
 rw [zhu]
 refine zg3 zqc yhOk0 h1 fun x hx => ?_
 rw [List.mem_singleton.1 hx]
 dsimp only
 simp only [zea]
 refine zaw (zby hg) ?_
 simp only [cond_true]
 rw [hy]
 dsimp only
 unfold opS
 simp only [cond_true, hq]
 rw [zfc hst]
 dsimp only
 rw [cQ_eq] at hv
 have := h2.go hK
 rw [za7] at this
 exact zln (K := fun v => zea P true [] (zdu P (HE E inl nl) (zg9 P (HE E inl nl) n .out) [] []) (YC.out.h [] []) L K (l.drop (k + 1)) (znc t2.l (zb6 l k).dst v) m1) hv this
theorem EvO.not {L l : List Oper} {k : Nat} {t t1 t2 : Fr} {m m1 : Mem} {outs : zbb} (hk : Nat.ble (k + 1) l.length = true)
 (h1 : regE P E inl nl n L (l.take k) t m = some [(t1, m1)]) (hg : (cG L (zb6 l k)).g t1 = some (false, t2))
 (h2 : EvO P E inl nl n L (l.drop (k + 1)) ((zfx (zb6 l k).dst).p t2 (.t [])) m1 outs) : EvO P E inl nl n L l t m outs := by
 refine ⟨fun {K} hK => ?_⟩
 have hl := zgd (Nat.le_of_ble_eq_true hk)
 suffices hs : zea P true [] (zdu P (HE E inl nl) (zg9 P (HE E inl nl) n .out) [] []) (YC.out.h [] []) L K (l.take k ++ zb6 l k :: l.drop (k + 1)) t.l m by rw [← hl] at hs; exact hs
 rw [zhu]
 refine zg3 zqc yhOk0 h1 fun x hx => ?_
 rw [List.mem_singleton.1 hx]
 dsimp only
 simp only [zea]
 refine zaw (zby hg) ?_
 simp only [cond_false]
 have := h2.go hK
 rw [za7] at this
 exact this
theorem EvO.call {L l : List Oper} {k : Nat} {t t1 t2 : Fr} {m m1 M' ms : Mem} {outs : zbb} {args al a cc : List V} {g : FuncId} {R : V} (ix : List Nat) (hk : Nat.ble (k + 1) l.length = true)
 (h1 : regE P (zcz S Gs) inl nl n L (l.take k) t m = some [(t1, m1)]) (hg : (cG L (zb6 l k)).g t1 = some (true, t2))
 (hc : zn6 (zb6 l k) = true) (hf : (zeg (opF (zb6 l k))).e t2 = .f g a cc) (hin : inL Gs g = true) (hargs : a ++ evA t2 (znp (opArgs (zb6 l k))) ++ cc = args)
 (hn : ix.Nodup) (hix : okIx ix args m1 = true) (hm : znv m1 ix = ms) (ha : zes (fun b => zjd ix b 0) args = al) (hp : PRun P g ms al fun x m' => x = R ∧ m' = M')
 (h2 : EvO P (zcz S Gs) inl nl n L (l.drop (k + 1)) ((zfx (zb6 l k).dst).p t2 (zch (fK ix m1.length) R)) (znq m1 ix M') outs) : EvO P (zcz S Gs) inl nl n L l t m outs := by
 refine ⟨fun {K} hK => ?_⟩
 have hl := zgd (Nat.le_of_ble_eq_true hk)
 suffices hs : zea P true [] (zdu P (HE (zcz S Gs) inl nl) (zg9 P (HE (zcz S Gs) inl nl) n .out) [] []) (YC.out.h [] []) L K (l.take k ++ zb6 l k :: l.drop (k + 1)) t.l m by rw [← hl] at hs; exact hs
 rw [zhu]
 refine zg3 zqc yhOk0 h1 fun x hx => ?_
 rw [List.mem_singleton.1 hx]
 dsimp only
 simp only [zea]
 refine zaw (zby hg) ?_
 simp only [cond_true]
 generalize hoo : zb6 l k = o at *
 obtain ⟨dst, op, ty, pos, after, guard⟩ := o
 obtain ⟨f, al', tys, rfl⟩ : ∃ f al' tys, op = .call ⟨.value f, al', tys⟩ := by
  unfold zn6 at hc
  split at hc
  · rename_i f l tys he; exact ⟨f, l, tys, he⟩
  · cases hc
 have hf : evS t2.l f = .f g a cc := by rw [← zbk]; exact hf
 have hargs : a ++ al'.toList.map (evS t2.l) ++ cc = args := by rw [← evA_eq]; exact hargs
 have hy : zbm t2.l (⟨dst, .call ⟨.value f, al', tys⟩, ty, pos, after, guard⟩ : Oper) = none := by unfold zbm; simp only [hf]
 rw [hy]
 dsimp only
 unfold opS
 have hq : zgn (⟨dst, .call ⟨.value f, al', tys⟩, ty, pos, after, guard⟩ : Oper) = false := rfl
 simp only [cond_true, hq, cond_false]
 rw [zfc rfl]
 dsimp only
 unfold effS
 simp only [hf]
 rw [hargs]
 unfold zdu
 have e : (HE (zcz S Gs) inl nl).sp.f ([] ++ []) (zgp P (HE (zcz S Gs) inl nl) (zg9 P (HE (zcz S Gs) inl nl) n .out) [] []) g args m1 = fun K => some (KnP P [] g args m1 K) := by
  funext K
  show cond (inL Gs g) _ _ = _
  rw [hin]; rfl
 rw [e]
 subst hm ha
 simp only [okIx, Bool.and_eq_true] at hix
 refine ⟨ix, R, M', hn, fun b hb => ⟨zdv hix.1.1 b hb, by simp⟩, fun b hb c hc => zbs hix.2 c (List.mem_flatMap.2 ⟨b, hb, hc⟩), zbs hix.1.2, hp, ?_⟩
 have := h2.go hK
 rw [za7] at this
 exact this
noncomputable def endKT (P : Program) (fn : Func) (m : Mem) (r : Res) : Option (V × Mem) :=
 match retF P fn r with
 | some x => endE false m.length x
 | none => none
theorem Ev.runT (hmix : P.follows .mixedOrders = true) {f : FuncId} {fn : Func} (hf : P.funcs[f]? = some fn) (hn : (fn.name == "runtime.NumGoroutine") = false) {c : Code} (hc : fn.body = some c) {m : Mem} {args : List V} {r : Res} (h : Ev P E inl nl n f c (zd5 P fn args) m [r]) {y : V × Mem} (he : endKT P fn m r = some y) : PRun P f m args fun x m' => x = y.1 ∧ m' = y.2 := by
 refine funSG hmix (H := HE E inl nl) (n := n + 1) (gc := true) hf hn hc ?_
 show vcC P (HE E inl nl) (zg9 P (HE E inl nl) n) f c .out [] [] _ _ m
 rw [← zka]
 refine h.go fun x hx => ?_
 rw [List.mem_singleton.1 hx]
 unfold endKT at he
 split at he
 · rename_i z hz
   exact zo5 hz (endE_ok he ⟨rfl, rfl⟩)
 · cases he
end
section
variable {P : Program} {E S : SPE P} {inl Gs : List Nat} {nl n fi : Nat}
abbrev DSt := Nat × List Nat × List (Nat × List Nat) × Fr × Mem
noncomputable def dr1 (P : Program) (E : SPE P) (inl : List Nat) (nl n : Nat) (ops : List Oper) (s : DSt) : Option DSt :=
 match s with
 | (0, _) => none
 | (k + 1, done, held, t, m) => match zjp ops done with
   | some i => (match ops[i]? with
     | none => none
     | some o => match (cG ops o).g t with
       | some (true, t') => (match qsF P o t' m with
         | some [v] => some (k, i :: done, cond (zjo o) held ((i, srcF t' o) :: held), (zfx o.dst).p t' v, m)
         | _ => none)
       | some (false, t') => some (k, i :: done, held, (zfx o.dst).p t' (.t []), m)
       | none => none)
   | none => (match zbi ops done with
     | [i] => (match ops[i]? with
       | none => none
       | some o => match (cG ops o).g t with
         | some (true, t') => (match esF P o (zed ops i held ++ [] ++ []) (zjy P E inl (runF P E inl nl n .out) [] (zed ops i held ++ [])) t' m with
           | some [r] => some (k, i :: done, held, (zfx o.dst).p t' r.1, r.2)
           | _ => none)
         | some (false, t') => some (k, i :: done, held, (zfx o.dst).p t' (.t []), m)
         | none => none)
     | _ => none)
noncomputable def drK (P : Program) (E : SPE P) (inl : List Nat) (nl n : Nat) (ops : List Oper) : Nat → DSt → Option DSt
 | 0, s => some s
 | j + 1, s => match dr1 P E inl nl n ops s with
   | some s' => drK P E inl nl n ops j s'
   | none => none
structure EvD (P : Program) (E : SPE P) (inl : List Nat) (nl n : Nat) (ops : List Oper) (s : DSt) (outs : zbb) : Prop where
 go : ∀ {K : List V → Mem → Prop}, (∀ x ∈ outs, K x.1.l x.2) → zfv P true [] [] (zdu P (HE E inl nl) (zg9 P (HE E inl nl) n .out) []) ops K s.1 s.2.1 s.2.2.1 s.2.2.2.1.l s.2.2.2.2
theorem callOkH {hr : List Nat} : zef (zjy P E inl (runF P E inl nl n .out) [] hr) (zdu P (HE E inl nl) (zg9 P (HE E inl nl) n .out) [] hr) :=
 zkd (n := nl) (selfE := runF P E inl nl n .out) (self := zg9 P (HE E inl nl) n .out) (zlh n (Y := .out) (Z := .out) trivial)
theorem EvD.code {ops : List Oper} {k : Nat} {done : List Nat} {held : List (Nat × List Nat)} {t : Fr} {m : Mem} {outs : zbb} (h : (cDraw P ops k done).r [] [] (zjy P E inl (runF P E inl nl n .out) []) held t m = some outs) : EvD P E inl nl n ops (k, done, held, t, m) outs :=
 ⟨fun hK => zgj (callE := zjy P E inl (runF P E inl nl n .out) []) (fun h => callOkH (hr := h)) h hK⟩
theorem EvD.step {ops : List Oper} {s s' : DSt} {outs : zbb} (h : dr1 P E inl nl n ops s = some s') (h2 : EvD P E inl nl n ops s' outs) : EvD P E inl nl n ops s outs := by
 obtain ⟨k, done, held, t, m⟩ := s
 cases k with
 | zero => cases h
 | succ k =>
   refine ⟨fun {K} hK => ?_⟩
   unfold dr1 at h
   dsimp only at h ⊢
   simp only [zfv]
   split at h
   · rename_i i hq
     rw [hq]
     dsimp only
     split at h
     · cases h
     · rename_i o ho
       rw [ho]
       dsimp only
       split at h
       · rename_i t' hg
         split at h
         · rename_i v hv
           cases h
           refine zaw (zby hg) ?_
           simp only [cond_true]
           rw [qsF_eq] at hv
           refine zii hv fun v' hv' => ?_
           rw [List.mem_singleton.1 hv']
           have := h2.go hK
           dsimp only at this
           rw [za7, srcF_eq] at this
           exact this
         · cases h
       · rename_i t' hg
         cases h
         have := h2.go hK
         dsimp only at this
         rw [za7] at this
         exact zaw (zby hg) this
       · cases h
   · rename_i hq
     rw [hq]
     dsimp only
     split at h
     · rename_i i hr
       rw [hr]
       dsimp only [conjL]
       split at h
       · cases h
       · rename_i o ho
         rw [ho]
         dsimp only
         split at h
         · rename_i t' hg
           split at h
           · rename_i r hv
             cases h
             refine zaw (zby hg) ?_
             simp only [cond_true]
             rw [esF_eq] at hv
             refine effE_ok callOkH hv fun r' hr' => ?_
             rw [List.mem_singleton.1 hr']
             have := h2.go hK
             dsimp only at this
             rw [za7] at this
             exact this
           · cases h
         · rename_i t' hg
           cases h
           have := h2.go hK
           dsimp only at this
           rw [za7] at this
           exact zaw (zby hg) this
         · cases h
     · cases h
theorem EvD.steps {ops : List Oper} {outs : zbb} : ∀ {j : Nat} {s s' : DSt}, drK P E inl nl n ops j s = some s' → EvD P E inl nl n ops s' outs → EvD P E inl nl n ops s outs
 | 0, s, s', h, h2 => by cases h; exact h2
 | j + 1, s, s', h, h2 => by
   simp only [drK] at h
   split at h
   · rename_i s1 h1
     exact EvD.step h1 (EvD.steps h h2)
   · cases h
noncomputable def drE (P : Program) (E : SPE P) (inl : List Nat) (nl n : Nat) (ops : List Oper) (i : Nat) (s : DSt) : Option DSt :=
 match s with
 | (0, _) => none
 | (k + 1, done, held, t, m) => (match ops[i]? with
   | none => none
   | some o => match (cG ops o).g t with
     | some (true, t') => (match esF P o (zed ops i held ++ [] ++ []) (zjy P E inl (runF P E inl nl n .out) [] (zed ops i held ++ [])) t' m with
       | some [r] => some (k, i :: done, held, (zfx o.dst).p t' r.1, r.2)
       | _ => none)
     | some (false, t') => some (k, i :: done, held, (zfx o.dst).p t' (.t []), m)
     | none => none)
theorem drE_ok {ops : List Oper} {i k : Nat} {done : List Nat} {held : List (Nat × List Nat)} {t : Fr} {m : Mem} {s' : DSt} {outs : zbb} (h : drE P E inl nl n ops i (k + 1, done, held, t, m) = some s') (h2 : EvD P E inl nl n ops s' outs) {K : List V → Mem → Prop} (hK : ∀ x ∈ outs, K x.1.l x.2) :
 (match ops[i]? with
  | none => False
  | some o => zh0 ops o t.l
   (fun t => effS P true (zed ops i held ++ [] ++ []) (zdu P (HE E inl nl) (zg9 P (HE E inl nl) n .out) [] (zed ops i held ++ [])) t m o fun v m' => zfv P true [] [] (zdu P (HE E inl nl) (zg9 P (HE E inl nl) n .out) []) ops K k (i :: done) held (znc t o.dst v) m')
   (fun t => zfv P true [] [] (zdu P (HE E inl nl) (zg9 P (HE E inl nl) n .out) []) ops K k (i :: done) held (znc t o.dst (.t [])) m)) := by
 unfold drE at h
 dsimp only at h
 split at h
 · cases h
 · rename_i o ho
   split at h
   · rename_i t' hg
     split at h
     · rename_i r hv
       cases h
       refine zaw (zby hg) ?_
       simp only [cond_true]
       rw [esF_eq] at hv
       refine effE_ok callOkH hv fun r' hr' => ?_
       rw [List.mem_singleton.1 hr']
       have := h2.go hK
       dsimp only at this
       rw [za7] at this
       exact this
     · cases h
   · rename_i t' hg
     cases h
     have := h2.go hK
     dsimp only at this
     rw [za7] at this
     exact zaw (zby hg) this
   · cases h
structure EvE (P : Program) (E : SPE P) (inl : List Nat) (nl n : Nat) (ops : List Oper) (i k : Nat) (done : List Nat) (held : List (Nat × List Nat)) (t : Fr) (m : Mem) (outs : zbb) : Prop where
 go : ∀ {K : List V → Mem → Prop}, (∀ x ∈ outs, K x.1.l x.2) →
  (match ops[i]? with
   | none => False
   | some o => zh0 ops o t.l
    (fun t => effS P true (zed ops i held ++ [] ++ []) (zdu P (HE E inl nl) (zg9 P (HE E inl nl) n .out) [] (zed ops i held ++ [])) t m o fun v m' => zfv P true [] [] (zdu P (HE E inl nl) (zg9 P (HE E inl nl) n .out) []) ops K k (i :: done) held (znc t o.dst v) m')
    (fun t => zfv P true [] [] (zdu P (HE E inl nl) (zg9 P (HE E inl nl) n .out) []) ops K k (i :: done) held (znc t o.dst (.t [])) m))
def oneR1 (l : List Nat) (i : Nat) : Bool :=
 match l with
 | [j] => Nat.beq j i
 | _ => false
theorem EvD.one {ops : List Oper} {k : Nat} {done : List Nat} {held : List (Nat × List Nat)} {t : Fr} {m : Mem} {outs : zbb} (i : Nat) (hq : zjp ops done = none) (hr : oneR1 (zbi ops done) i = true) (e : EvE P E inl nl n ops i k done held t m outs) : EvD P E inl nl n ops (k + 1, done, held, t, m) outs := by
 refine ⟨fun {K} hK => ?_⟩
 have hr1 : zbi ops done = [i] := by
  revert hr
  cases zbi ops done with
  | nil => intro hr; cases hr
  | cons x l => cases l with
    | nil => intro hr; rw [Nat.eq_of_beq_eq_true hr]
    | cons y l => intro hr; cases hr
 dsimp only
 simp only [zfv]
 rw [hq]
 dsimp only
 rw [hr1]
 dsimp only [conjL]
 exact e.go hK
theorem EvE.call {ops : List Oper} {k : Nat} {done : List Nat} {held : List (Nat × List Nat)} {t t2 : Fr} {m M' ms : Mem} {outs : zbb} {args al a cc : List V} {g : FuncId} {R : V} (i : Nat) (ix : List Nat) (hk : Nat.ble (i + 1) ops.length = true)
 (hg : (cG ops (zb6 ops i)).g t = some (true, t2))
 (hc : zn6 (zb6 ops i) = true) (hf : (zeg (opF (zb6 ops i))).e t2 = .f g a cc) (hin : inL Gs g = true) (hargs : a ++ evA t2 (znp (opArgs (zb6 ops i))) ++ cc = args)
 (hn : ix.Nodup) (hix : okIx ix args m = true) (hd : disj (zed ops i held) ix = true) (hm : znv m ix = ms) (ha : zes (fun b => zjd ix b 0) args = al) (hp : PRun P g ms al fun x m' => x = R ∧ m' = M')
 (h2 : EvD P (zcz S Gs) inl nl n ops (k, i :: done, held, (zfx (zb6 ops i).dst).p t2 (zch (fK ix m.length) R), znq m ix M') outs) : EvE P (zcz S Gs) inl nl n ops i k done held t m outs := by
 refine ⟨fun {K} hK => ?_⟩
 have ho : ops[i]? = some (zb6 ops i) := by
  have e := zgd (Nat.le_of_ble_eq_true hk)
  have hl : (ops.take i).length = i := by rw [List.length_take]; have := Nat.le_of_ble_eq_true hk; omega
  rw [e, List.getElem?_append_right (by omega), hl, Nat.sub_self, ← e]
  simp
 rw [ho]
 dsimp only
 refine zaw (zby hg) ?_
 simp only [cond_true]
 generalize hoo : zb6 ops i = o at *
 obtain ⟨dst, op, ty, pos, after, guard⟩ := o
 obtain ⟨f, al', tys, rfl⟩ : ∃ f al' tys, op = .call ⟨.value f, al', tys⟩ := by
  unfold zn6 at hc
  split at hc
  · rename_i f l tys he; exact ⟨f, l, tys, he⟩
  · cases hc
 have hf : evS t2.l f = .f g a cc := by rw [← zbk]; exact hf
 have hargs : a ++ al'.toList.map (evS t2.l) ++ cc = args := by rw [← evA_eq]; exact hargs
 unfold effS
 simp only [hf]
 rw [hargs]
 unfold zdu
 have e : (HE (zcz S Gs) inl nl).sp.f ((zed ops i held ++ []) ++ []) (zgp P (HE (zcz S Gs) inl nl) (zg9 P (HE (zcz S Gs) inl nl) n .out) [] (zed ops i held ++ [])) g args m = fun K => some (KnP P ((zed ops i held ++ []) ++ []) g args m K) := by
  funext K
  show cond (inL Gs g) _ _ = _
  rw [hin]; rfl
 rw [e]
 subst hm ha
 simp only [okIx, Bool.and_eq_true] at hix
 refine ⟨ix, R, M', hn, fun b hb => ⟨zdv hix.1.1 b hb, by simpa using zkc hd b hb⟩, fun b hb c hc => zbs hix.2 c (List.mem_flatMap.2 ⟨b, hb, hc⟩), zbs hix.1.2, hp, ?_⟩
 have := h2.go hK
 dsimp only at this
 rw [za7] at this
 exact this
def cRegD : Code → Bool
 | .region _ _ true => true
 | _ => false
theorem Ev.regD {c : Code} {t : Fr} {m : Mem} {outs outs2 : zbb} (hr : cRegD c = true) (hd : ((cOp c).all fun o => !zce o) = true) (hb : (zg2 (cOp c) (cOp c).length [] && Region.noSelect (cOp c).toArray) = true)
 (h : EvD P E inl nl n (cOp c) ((cOp c).length, [], [], t, m) outs) (hcn : agreeF (zde m) outs = some outs2) : Ev P E inl nl n fi c t m (nrmR outs2) := by
 obtain ⟨id, ops, rfl⟩ : ∃ id ops, c = .region id ops true := by cases c <;> first | (rename_i d; cases d <;> first | exact ⟨_, _, rfl⟩ | cases hr) | cases hr
 refine ⟨fun {Q} hQ => ?_⟩
 simp only [cOp] at *
 simp only [vcC]
 rw [hd]
 simp only [cond_true]
 rw [hb]
 simp only [cond_true]
 rw [zax] at hcn
 exact h.go (K := zc5 m.length (Q .nrm)) (agreeF_ok hcn fun y hy => hQ (.nrm, y.1, y.2) (List.mem_map.2 ⟨y, hy, rfl⟩))
def zqa (n : Nat) (r : Fr × Mem) : zbb → Prop
 | [] => True
 | x :: l => zjl n x.1 x.2 = some r ∧ zqa n r l
theorem zmt {n : Nat} {r : Fr × Mem} : ∀ {l : zbb}, zqa n r l → ∀ x ∈ l, zjl n x.1 x.2 = some r
 | [], _, x, hx => by cases hx
 | y :: l, h, x, hx => by
   rcases List.mem_cons.1 hx with rfl | hx
   · exact h.1
   · exact zmt h.2 x hx
theorem Ev.regD2 {c : Code} {t t3 : Fr} {m m3 : Mem} {outs : zbb} (hr : cRegD c = true) (hd : ((cOp c).all fun o => !zce o) = true) (hb : (zg2 (cOp c) (cOp c).length [] && Region.noSelect (cOp c).toArray) = true)
 (h : EvD P E inl nl n (cOp c) ((cOp c).length, [], [], t, m) outs) (hcn : zqa (zde m) (t3, m3) outs) : Ev P E inl nl n fi c t m [(.nrm, t3, m3)] := by
 obtain ⟨id, ops, rfl⟩ : ∃ id ops, c = .region id ops true := by cases c <;> first | (rename_i d; cases d <;> first | exact ⟨_, _, rfl⟩ | cases hr) | cases hr
 refine ⟨fun {Q} hQ => ?_⟩
 simp only [cOp] at *
 simp only [vcC]
 rw [hd]
 simp only [cond_true]
 rw [hb]
 simp only [cond_true]
 rw [zax] at hcn
 exact h.go (K := zc5 m.length (Q .nrm)) fun x hx => zh9 (zmt hcn x hx) (hQ _ (List.mem_singleton_self _))
structure EvL (P : Program) (E : SPE P) (inl : List Nat) (nl n fi : Nat) (n0 : Nat) (c : Code) (k : Nat) (t : Fr) (m : Mem) (rs : zg7) : Prop where
 go : ∀ {Q : zeq}, (∀ r ∈ rs, Q r.1 r.2.1.l r.2.2) → rnds (some n0) (fun Q => vcC P (HE E inl nl) (zg9 P (HE E inl nl) n) fi c .out [] [] Q) Q k t.l m
theorem EvL.round {n0 k : Nat} {c : Code} {t t1 t2 : Fr} {m m1 m2 : Mem} {rs : zg7} (h : Ev P E inl nl n fi c t m [(.nrm, t1, m1)]) (hc : zjl n0 t1 m1 = some (t2, m2)) (h2 : EvL P E inl nl n fi n0 c k t2 m2 rs) : EvL P E inl nl n fi n0 c (k + 1) t m rs := by
 refine ⟨fun {Q} hQ => ?_⟩
 unfold rnds
 refine h.go fun r hr => ?_
 rw [List.mem_singleton.1 hr]
 exact zh9 (K := rnds (some n0) (fun Q => vcC P (HE E inl nl) (zg9 P (HE E inl nl) n) fi c .out [] [] Q) Q k) hc (h2.go hQ)
theorem EvL.last {n0 k : Nat} {c : Code} {t t1 : Fr} {m m1 : Mem} {e : Ex} (he : e ≠ .nrm) (h : Ev P E inl nl n fi c t m [(e, t1, m1)]) : EvL P E inl nl n fi n0 c (k + 1) t m [(e, t1, m1)] := by
 refine ⟨fun {Q} hQ => ?_⟩
 unfold rnds
 refine h.go fun r hr => ?_
 rw [List.mem_singleton.1 hr]
 have := hQ _ (List.mem_singleton_self _)
 cases e with
 | nrm => exact absurd rfl he
 | ret => exact this
 | ext j => exact this
def cLoop : Code → Bool
 | .loop _ => true
 | _ => false
def cLp : Code → Code
 | .loop c => c
 | c => c
theorem Ev.loopP {n0 : Nat} {c : Code} {t : Fr} {m : Mem} {rs : zg7} (hs : cLoop c = true) (hn : zde m = n0) (h : EvL P E inl nl n fi n0 (cLp c) nl t m rs) : Ev P E inl nl n fi c t m rs := by
 obtain ⟨b, rfl⟩ : ∃ b, c = .loop b := by cases c <;> first | exact ⟨_, rfl⟩ | cases hs
 refine ⟨fun {Q} hQ => ?_⟩
 have fl : ∀ a b c, findH (HE E inl nl).lo a b c = none := fun a b c => rfl
 simp only [vcC, fl]
 rw [zax] at hn
 subst hn
 exact h.go hQ
end
end Go.Proofs.YtobdpeelaadkbaaGreat
