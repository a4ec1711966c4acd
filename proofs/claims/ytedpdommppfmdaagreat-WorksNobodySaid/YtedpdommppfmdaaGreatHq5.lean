/- Catalogues: pairs of needs, makers, may one be: the code's and the document's. -/
import Derived.Test.YtedpdommppfmdaaGreatHq4
import Derived.Test.YtedpdommppfmdaaGreatProg
import Derived.RecoverIn
/- The fast evaluator, part e: code, a function's run; all that may come of them. -/
set_option linter.unusedVariables false
namespace Go.Proofs.YtedpdommppfmdaaGreat
open Go
abbrev Res := Ex × Fr × Mem
abbrev Ress := List Res
abbrev SelfE := Nat → List Nat → List Nat → Code → Fr → Mem → Option Ress
inductive YE where
  | out
  | rd
  | it (b : Nat) (f : List Nat → List Nat → List V → Mem → Option Out)
def YE.sub : YE → YE
  | .it b f => .it b f
  | _ => .out
def YE.h (Y : YE) (ro hr : List Nat) (b : Nat) (args : List V) (m : Mem) : Option Out :=
  match Y with
  | .it b' f => cond (Nat.beq b b') (f ro hr args m) none
  | _ => none
def YE.Ok : YE → YC → Prop
  | .out, .out => True
  | .rd, .rd => True
  | .it b f, .it b' f' => b = b' ∧ ∀ {ro hr : List Nat} {args : List V} {m : Mem} {rs : Out} {K : V → Mem → Prop}, f ro hr args m = some rs → (∀ r ∈ rs, K r.1 r.2) → f' ro hr args m K
  | _, _ => False
theorem YE.Ok.sub {Y : YE} {Z : YC} (h : Y.Ok Z) : Y.sub.Ok Z.sub := by
  cases Y <;> cases Z <;> first | exact h.elim | trivial | exact h
theorem YE.Ok.yh {Y : YE} {Z : YC} (h : Y.Ok Z) {ro hr : List Nat} : YhOk (Y.h ro hr) (Z.h ro hr) := by
  intro b args m rs K h1 hK
  cases Y <;> cases Z <;> first | exact h.elim | (cases h1; done) | skip
  obtain ⟨rfl, hf⟩ := h
  simp only [YE.h] at h1
  simp only [YC.h]
  obtain ⟨h2, h3⟩ := condO h1
  rw [h2]
  exact hf h3 hK
abbrev SelfYE := YE → SelfE
noncomputable def normGF (P : Program) (Ts : List TypeId) (vs : List V) : List V :=
  List.rec (motive := fun _ => List V → List V) (fun l => l) (fun T _ ih l => List.casesOn (motive := fun _ => List V) l [] (fun v r => normV P T v :: ih r)) Ts vs
theorem normGF_eq (P : Program) : ∀ (Ts : List TypeId) (vs : List V), normGF P Ts vs = normG P true Ts vs
  | [], vs => by simp only [normG]; rfl
  | T :: Ts, [] => by simp only [normG]; rfl
  | T :: Ts, v :: vs => by simp only [normG, cond_true]; rw [← normGF_eq P Ts vs]; rfl
theorem normG_len (P : Program) : ∀ (Ts : List TypeId) (vs : List V), (normG P true Ts vs).length = vs.length
  | [], vs => by simp only [normG]
  | T :: Ts, [] => by simp only [normG]
  | T :: Ts, v :: vs => by simp only [normG, List.length_cons, normG_len P Ts vs]
noncomputable def frameF (P : Program) (fn : Func) (args : List V) : Fr := Fr.mk (normGF P fn.params.toList args) (Nat.sub fn.ntmps (rlen args)) (Nat.add (rlen args) (Nat.sub fn.ntmps (rlen args)))
theorem frameF_l (P : Program) (fn : Func) (args : List V) : (frameF P fn args).l = frameG P true fn args := by
  unfold frameF frameG
  rw [mk_l (by rw [normGF_eq, normG_len, rlen_eq]; rfl), normGF_eq, rlen_eq]; rfl
noncomputable def resLF (P : Program) : List ResultVar → Fr → Mem → Option (List V)
  | [], _, _ => some []
  | .tmp i :: l, t, m => match resLF P l t m with
    | some vs => some ((acc i).g t :: vs)
    | none => none
  | .cell i T :: l, t, m => match sLoadE P T ((acc i).g t) m, resLF P l t m with
    | some v, some vs => some (v :: vs)
    | _, _ => none
theorem resLF_ok {P : Program} : ∀ {l : List ResultVar} {t : Fr} {m : Mem} {vs : List V} {K : List V → Prop}, resLF P l t m = some vs → K vs → resL P l t.l m K
  | [], t, m, vs, K, h, hK => by cases h; exact hK
  | .tmp i :: l, t, m, vs, K, h, hK => by
    simp only [resLF] at h
    split at h
    · rename_i vs' hv
      cases h
      rw [acc_g] at hK
      exact resLF_ok (K := fun vs => K (vget t.l i :: vs)) hv hK
    · cases h
  | .cell i T :: l, t, m, vs, K, h, hK => by
    simp only [resLF] at h
    split at h
    · rename_i v vs' h1 h2
      cases h
      rw [acc_g] at h1
      exact sLoadE_ok (K := fun v => resL P l t.l m fun vs => K (v :: vs)) h1 (resLF_ok (K := fun vs => K (v :: vs)) h2 hK)
    · cases h
noncomputable def retF (P : Program) (fn : Func) (r : Res) : Option (V × Mem) :=
  match r.1 with
  | .ext _ => none
  | _ => match resLF P fn.results.toList r.2.1 r.2.2 with
    | some vs => some (oneV (normGF P fn.resultTypes.toList vs), r.2.2)
    | none => none
theorem retF_ok {P : Program} {fn : Func} {r : Res} {x : V × Mem} {K : V → Mem → Prop} (h : retF P fn r = some x) (hK : K x.1 x.2) : retG P true fn K r.1 r.2.1.l r.2.2 := by
  obtain ⟨e, t, m⟩ := r
  unfold retF at h
  unfold retG
  cases e <;> dsimp only at h ⊢
  case ext i => cases h
  all_goals
    split at h
    · rename_i vs hv
      cases h
      rw [normGF_eq] at hK
      exact resLF_ok (K := fun vs => K (oneV (normG P true fn.resultTypes.toList vs)) m) hv hK
    · cases h
noncomputable def gcVF (n : Nat) (r : V × Mem) : Option (V × Mem) :=
  cond (Nat.ble (rlen r.2) (Nat.succ n)) (some r) (match canonF n [r.1] r.2 with
    | some (t, m2) => some (rget .z t 0, m2)
    | none => none)
theorem gcVF_ok {n : Nat} {r x : V × Mem} {K : V → Mem → Prop} (h : gcVF n r = some x) (hK : K x.1 x.2 ∨ K (wkV x.1) x.2) : gcQ (some n) K r.1 r.2 := by
  unfold gcVF at h
  unfold gcQ
  dsimp only
  cases hb : Nat.ble (rlen r.2) (Nat.succ n) with
  | true =>
    rw [hb] at h
    cases h
    unfold canonS
    rw [rlen_eq] at hb
    have hb' : Nat.ble r.2.length (n + 1) = true := hb
    simp only [hb', cond_true]
    exact hK
  | false =>
    rw [hb] at h
    simp only [cond_false] at h
    split at h
    · rename_i t m2 hc
      cases h
      rw [rget_vget] at hK
      exact canonF_ok hc hK
    · cases h
def sameR (x : V × Mem) (l : Out) : Bool := l.all fun y => smV x.1 y.1 && eqM x.2 y.2
theorem sameR_ok {x : V × Mem} {l : Out} (h : sameR x l = true) : ∀ y ∈ l, y = x := fun y hy => by
  have := List.all_eq_true.1 h y hy
  simp only [Bool.and_eq_true] at this
  exact Prod.ext (smV_ok _ _ this.1).symm (eqM_ok this.2).symm
def wkR (x : V × Mem) : V × Mem := (wkV x.1, x.2)
def mergeR (l : Out) : Out :=
  match l with
  | [] => []
  | [x] => [x]
  | x :: r => cond (sameR x r) [x] (cond (sameR (wkR x) (r.map wkR)) [wkR x] (x :: r))
theorem mergeR_ok {l : Out} {K : V → Mem → Prop} (hK : ∀ x ∈ mergeR l, K x.1 x.2) : ∀ x ∈ l, K x.1 x.2 ∨ K (wkV x.1) x.2 := by
  intro x hx
  match l, hK, hx with
  | [], _, hx => cases hx
  | [y], hK, hx => exact .inl (hK x hx)
  | y :: z :: r, hK, hx =>
    simp only [mergeR] at hK
    cases h1 : sameR y (z :: r) with
    | true =>
      rw [h1] at hK
      have e : x = y := by
        rcases List.mem_cons.1 hx with h | h
        · exact h
        · exact sameR_ok h1 x h
      rw [e]
      exact .inl (hK y (by simp))
    | false =>
      rw [h1] at hK
      simp only [cond_false] at hK
      cases h2 : sameR (wkR y) ((z :: r).map wkR) with
      | true =>
        rw [h2] at hK
        have e : wkR x = wkR y := by
          rcases List.mem_cons.1 hx with h | h
          · rw [h]
          · exact sameR_ok h2 _ (List.mem_map.2 ⟨x, h, rfl⟩)
        have := hK (wkR y) (by simp)
        rw [← e] at this
        exact .inr this
      | false => rw [h2] at hK; exact .inl (hK x hx)
structure SPE (P : Program) where
  sp : SP P
  e : List Nat → CallE → FuncId → List V → Mem → Option (Option Out)
  ok : ∀ {ro : List Nat} {callE : CallE} {call : CallH}, CallEOk callE call → ∀ {g : FuncId} {args : List V} {m : Mem} {rs : Out} {K : V → Mem → Prop}, e ro callE g args m = some (some rs) → (∀ r ∈ rs, K r.1 r.2) → ∃ p, sp.f ro call g args m K = some p ∧ p
  no : ∀ {ro : List Nat} {callE : CallE} {call : CallH} {g : FuncId} {args : List V} {m : Mem} {K : V → Mem → Prop}, e ro callE g args m = none → sp.f ro call g args m K = none
noncomputable def callF0 (P : Program) (inl : List Nat) (self : SelfE) (ro hr : List Nat) : CallE := fun g args m =>
  match P.funcs[g]? with
  | none => none
  | some fn => cond (inL inl g)
      (match fn.body with
        | none => none
        | some c => cond (fn.name == "runtime.NumGoroutine") none (match bindS (self g ro hr c (frameF P fn args) m) fun r => match retF P fn r with
          | some x => one1 (gcVF (rlen m) x)
          | none => none with
          | some l => some (mergeR l)
          | none => none))
      none
noncomputable def callF (P : Program) (E : SPE P) (inl : List Nat) (self : SelfE) (ro hr : List Nat) : CallE := fun g args m =>
  match E.e (hr ++ ro) (callF0 P inl self ro hr) g args m with
  | some r => r
  | none => callF0 P inl self ro hr g args m
def HE {P : Program} (E : SPE P) (inl : List Nat) (n : Nat) : SH P := ⟨[], [], inl, [], [], false, n, KN.no, true, E.sp⟩
def SelfEOk (selfE : SelfE) (self : SelfT) : Prop := ∀ {fi : Nat} {ro hr : List Nat} {c : Code} {t : Fr} {m : Mem} {rs : Ress} {Q : PostS}, selfE fi ro hr c t m = some rs → (∀ r ∈ rs, Q r.1 r.2.1.l r.2.2) → self fi ro hr c Q t.l m
theorem callF0_ok {P : Program} {E : SPE P} {inl : List Nat} {n : Nat} {selfE : SelfE} {self : SelfT} (hs : SelfEOk selfE self) {ro hr : List Nat} : CallEOk (callF0 P inl selfE ro hr) (callH0 P (HE E inl n) self ro hr) := by
  intro g args m rs K h hK
  unfold callF0 at h
  unfold callH0
  split at h
  · cases h
  · rename_i fn hf
    rw [hf]
    dsimp only
    obtain ⟨h1, h2⟩ := condO h
    have h1' : inL (HE E inl n).inl g = true := h1
    rw [h1']
    simp only [cond_true]
    split at h2
    · cases h2
    · rename_i c hc
      obtain ⟨h3, h4⟩ := condN h2
      rw [hc]
      dsimp only
      rw [h3]
      simp only [cond_false]
      split at h4
      · rename_i l hl
        cases h4
        obtain ⟨l1, h5, h6⟩ := bindS_ok hl
        have ef : frameG P (HE E inl n).gc fn args = (frameF P fn args).l := (frameF_l P fn args).symm
        rw [ef]
        refine hs h5 fun r hr => ?_
        obtain ⟨a, h7, h8⟩ := h6 r hr
        split at h7
        · rename_i x hx
          obtain ⟨y, h9, rfl⟩ := one1_some h7
          rw [rlen_eq] at h9
          exact retF_ok hx (gcVF_ok h9 (mergeR_ok hK y (h8 y (by simp))))
        · cases h7
      · cases h4
theorem callF_ok {P : Program} {E : SPE P} {inl : List Nat} {n : Nat} {selfE : SelfE} {self : SelfT} (hs : SelfEOk selfE self) {ro hr : List Nat} : CallEOk (callF P E inl selfE ro hr) (callH P (HE E inl n) self ro hr) := by
  intro g args m rs K h hK
  unfold callF at h
  unfold callH
  split at h
  · rename_i r hr1
    subst h
    obtain ⟨p, h1, h2⟩ := E.ok (callF0_ok (E := E) (n := n) (selfE := selfE) (self := self) hs) hr1 hK
    have h1' : (HE E inl n).sp.f (hr ++ ro) (callH0 P (HE E inl n) self ro hr) g args m K = some p := h1
    rw [h1']; exact h2
  · rename_i hr1
    have h1' : (HE E inl n).sp.f (hr ++ ro) (callH0 P (HE E inl n) self ro hr) g args m K = none := E.no hr1
    rw [h1']
    exact callF0_ok (E := E) (n := n) (selfE := selfE) (self := self) hs h hK
noncomputable def rndsF (n0 : Nat) (step : Fr → Mem → Option Ress) (n : Nat) (t : Fr) (m : Mem) : Option Ress :=
  Nat.rec (motive := fun _ => Fr → Mem → Option Ress) (fun _ _ => none)
    (fun _ ih t m => bindS (step t m) fun r => match r.1 with
      | .nrm => (match canonH n0 r.2.1 r.2.2 with
        | some (t2, m2) => ih t2 m2
        | none => none)
      | _ => some [r]) n t m
theorem rndsF_ok {n0 : Nat} {stepE : Fr → Mem → Option Ress} {step : PostS → List V → Mem → Prop} (hs : ∀ {t : Fr} {m rs} {Q : PostS}, stepE t m = some rs → (∀ r ∈ rs, Q r.1 r.2.1.l r.2.2) → step Q t.l m) {Q : PostS} :
    ∀ {n : Nat} {t : Fr} {m : Mem} {rs : Ress}, rndsF n0 stepE n t m = some rs → (∀ r ∈ rs, Q r.1 r.2.1.l r.2.2) → rnds (some n0) step Q n t.l m
  | 0, t, m, rs, h, _ => by cases h
  | n + 1, t, m, rs, h, hQ => by
    have h : bindS (stepE t m) (fun r => match r.1 with
      | .nrm => (match canonH n0 r.2.1 r.2.2 with
        | some (t2, m2) => rndsF n0 stepE n t2 m2
        | none => none)
      | _ => some [r]) = some rs := h
    obtain ⟨l, h1, h2⟩ := bindS_ok h
    unfold rnds
    refine hs h1 fun r hr => ?_
    obtain ⟨a, h3, h4⟩ := h2 r hr
    obtain ⟨e, t', m'⟩ := r
    cases e with
    | nrm =>
      dsimp only at h3
      split at h3
      · rename_i t2 m2 hc
        exact canonH_ok (K := rnds (some n0) step Q n) hc (rndsF_ok hs h3 fun x hx => hQ x (h4 x hx))
      · cases h3
    | ext i =>
      cases h3
      have := hQ (.ext i, t', m') (h4 _ (by simp))
      exact this
    | ret =>
      cases h3
      have := hQ (.ret, t', m') (h4 _ (by simp))
      exact this
noncomputable def setAF (t : Fr) (ps : List Tmp) (args : List V) : Fr :=
  List.rec (motive := fun _ => Fr → List V → Fr) (fun t _ => t) (fun p _ ih t l => List.casesOn (motive := fun _ => Fr) l t (fun v r => ih ((acc p).s t v) r)) ps t args
theorem setAF_l : ∀ (ps : List Tmp) (t : Fr) (args : List V), (setAF t ps args).l = setA t.l ps args
  | [], t, args => by cases args <;> rfl
  | p :: ps, t, [] => rfl
  | p :: ps, t, v :: vs => by
    show (setAF ((acc p).s t v) ps vs).l = setA (vset t.l p v) ps vs
    rw [setAF_l ps, acc_s]
structure CF where
  r : SelfYE → YE → List Nat → List Nat → Fr → Mem → Option Ress
def nrmR (l : OutsF) : Ress := l.map fun x => (.nrm, x.1, x.2)
noncomputable def cCode (P : Program) (E : SPE P) (inl : List Nat) (nl : Nat) : Code → CF
  | .skip => ⟨fun _ _ _ _ t m => some [(.nrm, t, m)]⟩
  | .region _ ops d => cond (ops.toList.all fun o => !isDefer o)
      (cond d (cond (drawB ops.toList ops.toList.length [] && Region.noSelect ops.toList.toArray)
          ⟨fun self Y hr ro t m => match (cDraw P ops.toList ops.toList.length []).r ro hr (callF P E inl (self Y.sub) ro) [] t m with
            | some outs => match agreeF (rlen m) outs with
              | some l => some (nrmR l)
              | none => none
            | none => none⟩ ⟨fun _ _ _ _ _ _ => none⟩)
        ⟨fun self Y hr ro t m => match (cOps P ops.toList ops.toList).r (rapp hr ro) (callF P E inl (self Y.sub) ro hr) (Y.h ro hr) t m with
            | some l => some (nrmR l)
            | none => none⟩) ⟨fun _ _ _ _ _ _ => none⟩
  | .seq x y => ⟨fun self Y hr ro t m => bindS ((cCode P E inl nl x).r self Y hr ro t m) fun r => match r.1 with
      | .nrm => (cCode P E inl nl y).r self Y hr ro r.2.1 r.2.2
      | _ => some [r]⟩
  | .cond c x y => ⟨fun self Y hr ro t m => match (cOpd c).e t with
      | .u (.b b) => cond b ((cCode P E inl nl x).r self Y hr ro t m) ((cCode P E inl nl y).r self Y hr ro t m)
      | _ => none⟩
  | .block id c => ⟨fun self Y hr ro t m => bindS ((cCode P E inl nl c).r self Y hr ro t m) fun r => match r.1 with
      | .ext j => some [(cond (Nat.beq j id) .nrm (.ext j), r.2.1, r.2.2)]
      | _ => some [r]⟩
  | .loop c => ⟨fun self Y hr ro t m => rndsF (rlen m) (fun t m => (cCode P E inl nl c).r self Y hr ro t m) nl t m⟩
  | .exit id => ⟨fun _ _ _ _ t m => some [(.ext id, t, m)]⟩
  | .ret => ⟨fun _ _ _ _ t m => some [(.ret, t, m)]⟩
  | .scope c => cCode P E inl nl c
  | .label _ => ⟨fun _ _ _ _ t m => some [(.nrm, t, m)]⟩
  | .rangeFunc g ps assign body => ⟨fun self Y hr ro t m => match Y with
    | .out => (match (cOpd g).e t with
      | .f gi as' cs => match P.funcs[gi]? with
        | none => none
        | some fn => match fn.body with
          | none => none
          | some c => cond (fn.name == "runtime.NumGoroutine" || !noEx body) none (
            bindS (self (.it (rlen m) fun ro' hr' args m1 => match rget .x m1 (rlen m) with
                | .tk => cond (Nat.beq args.length ps.size) (bindS ((cCode P E inl nl assign).r self .rd hr' ro' (setAF t ps.toList args) (rset m1 (rlen m) .x)) fun r2 => match r2.1 with
                  | .nrm => bindS ((cCode P E inl nl body).r self .rd hr' ro' r2.2.1 r2.2.2) fun r3 => (match r3.1, rget .x r3.2.2 (rlen m) with
                    | .nrm, .x => some [(.u (.b true), rset r3.2.2 (rlen m) .tk)]
                    | _, _ => none)
                  | _ => none) none
                | _ => none) gi ro hr c (frameF P fn (rapp (rapp as' [.y (rlen m)]) cs)) (rapp m [.tk])) fun r => match retF P fn r with
              | some x => (match rget .x x.2 (rlen m) with
                | .tk => some [(.nrm, t, rset x.2 (rlen m) .x)]
                | _ => none)
              | none => none)
      | _ => none)
    | _ => none⟩
  | _ => ⟨fun _ _ _ _ _ _ => none⟩
theorem c_cond (c : Bool) (f g : CF) (self : SelfYE) (Y : YE) (hr ro : List Nat) (t : Fr) (m : Mem) : (cond c f g).r self Y hr ro t m = cond c (f.r self Y hr ro t m) (g.r self Y hr ro t m) := by cases c <;> rfl
theorem cCode_ok {P : Program} {E : SPE P} {inl : List Nat} {nl : Nat} {selfE : SelfYE} {self : SelfY} (hs : ∀ {Y : YE} {Z : YC}, Y.Ok Z → SelfEOk (selfE Y) (self Z)) {fi : Nat} :
    ∀ (c : Code) {Y : YE} {Z : YC} (hY : Y.Ok Z) {hr ro : List Nat} {t : Fr} {m : Mem} {rs : Ress} {Q : PostS}, (cCode P E inl nl c).r selfE Y hr ro t m = some rs → (∀ r ∈ rs, Q r.1 r.2.1.l r.2.2) → vcC P (HE E inl nl) self fi c Z hr ro Q t.l m := by
  have fj : ∀ a b c, findH (HE E inl nl).jo a b c = none := fun a b c => rfl
  have fl : ∀ a b c, findH (HE E inl nl).lo a b c = none := fun a b c => rfl
  intro c
  induction c with
  | skip => intro Y Z hY hr ro t m rs Q h hQ; simp only [cCode] at h; cases h; exact hQ (.nrm, t, m) (by simp)
  | exit id => intro Y Z hY hr ro t m rs Q h hQ; simp only [cCode] at h; cases h; exact hQ (.ext id, t, m) (by simp)
  | ret => intro Y Z hY hr ro t m rs Q h hQ; simp only [cCode] at h; cases h; exact hQ (.ret, t, m) (by simp)
  | label id => intro Y Z hY hr ro t m rs Q h hQ; simp only [cCode] at h; cases h; exact hQ (.nrm, t, m) (by simp)
  | scope c ih => intro Y Z hY hr ro t m rs Q h hQ; simp only [cCode] at h; simp only [vcC]; exact ih hY h hQ
  | region id ops d =>
    intro Y Z hY hr ro t m rs Q h hQ
    simp only [cCode] at h
    rw [c_cond, c_cond, c_cond] at h
    simp only [vcC]
    obtain ⟨h1, h2⟩ := condO h
    rw [h1]
    simp only [cond_true]
    cases d with
    | true =>
      simp only [cond_true] at h2 ⊢
      obtain ⟨h3, h4⟩ := condO h2
      rw [h3]
      simp only [cond_true]
      split at h4
      · rename_i outs ho
        split at h4
        · rename_i l ha
          cases h4
          rw [rlen_eq] at ha
          refine cDraw_ok (fun h5 => callF_ok (n := nl) (selfE := selfE Y.sub) (self := self Z.sub) (hs hY.sub)) ho fun x hx => ?_
          exact agreeF_ok ha (fun y hy => hQ (.nrm, y.1, y.2) (List.mem_map.2 ⟨y, hy, rfl⟩)) x hx
        · cases h4
      · cases h4
    | false =>
      simp only [cond_false] at h2 ⊢
      split at h2
      · rename_i l hl
        cases h2
        rw [rapp_eq] at hl
        exact cOps_ok (callF_ok (n := nl) (selfE := selfE Y.sub) (self := self Z.sub) (hs hY.sub)) hY.yh (K := Q .nrm) hl fun x hx => hQ (.nrm, x.1, x.2) (List.mem_map.2 ⟨x, hx, rfl⟩)
      · cases h2
  | seq x y ihx ihy =>
    intro Y Z hY hr ro t m rs Q h hQ
    simp only [cCode] at h
    simp only [vcC, fj]
    obtain ⟨l, h1, h2⟩ := bindS_ok h
    refine ihx hY h1 fun r hr => ?_
    obtain ⟨a, h3, h4⟩ := h2 r hr
    obtain ⟨e, t', m'⟩ := r
    cases e with
    | nrm => exact ihy hY h3 fun x hx => hQ x (h4 x hx)
    | ext i =>
      cases h3
      have := hQ (.ext i, t', m') (h4 _ (by simp))
      exact this
    | ret =>
      cases h3
      have := hQ (.ret, t', m') (h4 _ (by simp))
      exact this
  | cond c x y ihx ihy =>
    intro Y Z hY hr ro t m rs Q h hQ
    simp only [cCode] at h
    simp only [vcC]
    rw [cOpd_e] at h
    split at h
    · rename_i b hc
      rw [hc]
      dsimp only
      cases b
      · exact ihy hY h hQ
      · exact ihx hY h hQ
    · cases h
  | block id c ih =>
    intro Y Z hY hr ro t m rs Q h hQ
    simp only [cCode] at h
    simp only [vcC]
    obtain ⟨l, h1, h2⟩ := bindS_ok h
    refine ih hY h1 fun r hr => ?_
    obtain ⟨a, h3, h4⟩ := h2 r hr
    obtain ⟨e, t', m'⟩ := r
    cases e with
    | nrm =>
      cases h3
      have := hQ (.nrm, t', m') (h4 _ (by simp))
      exact this
    | ext j =>
      cases h3
      have := hQ (cond (Nat.beq j id) .nrm (.ext j), t', m') (h4 _ (by simp))
      simp only [blockS]
      dsimp only at this
      cases hb : Nat.beq j id with
      | true => rw [hb] at this; exact this
      | false => rw [hb] at this; exact this
    | ret =>
      cases h3
      have := hQ (.ret, t', m') (h4 _ (by simp))
      exact this
  | loop c ih =>
    intro Y Z hY hr ro t m rs Q h hQ
    simp only [cCode] at h
    simp only [vcC, fl]
    rw [rlen_eq] at h
    exact rndsF_ok (step := fun Q => vcC P (HE E inl nl) self fi c Z hr ro Q) (fun h1 h2 => ih hY h1 h2) h hQ
  | rangeFunc g ps assign body iha ihb =>
    intro Y Z hY hr ro t m rs Q h hQ
    cases Y with
    | rd => simp [cCode] at h
    | it b f => simp [cCode] at h
    | out =>
      cases Z with
      | rd => exact hY.elim
      | it b f => exact hY.elim
      | out =>
        simp only [cCode, cOpd_e, rlen_eq, rapp_eq, rget_mg, rset_eq] at h
        simp only [vcC]
        split at h
        · rename_i gi as' cs hg
          rw [hg]
          dsimp only
          split at h
          · cases h
          · rename_i fn hf
            rw [hf]
            dsimp only
            split at h
            · cases h
            · rename_i c hc
              rw [hc]
              dsimp only
              obtain ⟨h1, h2⟩ := condN h
              rw [h1]
              simp only [cond_false]
              obtain ⟨l, hl, h3⟩ := bindS_ok h2
              rw [show frameG P (HE E inl nl).gc fn (as' ++ [V.y m.length] ++ cs) = (frameF P fn (as' ++ [V.y m.length] ++ cs)).l from (frameF_l P fn _).symm]
              refine hs ?_ (Q := retG P true fn fun _ m' => isY (mg m' m.length) (Q .nrm t.l (ms m' m.length .x))) hl fun r1 hr1 => ?_
              · refine ⟨rfl, fun {ro' hr' args m1 r2 K} h3 hK => ?_⟩
                dsimp only at h3 ⊢
                split at h3
                · rename_i htk1
                  obtain ⟨h4, h5⟩ := condO h3
                  rw [htk1]
                  simp only [isY, h4, cond_true]
                  obtain ⟨l2, hl2, h6⟩ := bindS_ok h5
                  rw [← ms_set] at hl2
                  rw [← setAF_l]
                  refine iha (Y := .rd) (Z := .rd) trivial hl2 fun q hq => ?_
                  obtain ⟨a, h7, h8⟩ := h6 q hq
                  obtain ⟨e2, t2, m2⟩ := q
                  cases e2 with
                  | nrm =>
                    dsimp only at h7
                    obtain ⟨l3, hl3, h9⟩ := bindS_ok h7
                    refine ihb (Y := .rd) (Z := .rd) trivial hl3 fun q3 hq3 => ?_
                    obtain ⟨a3, h10, h11⟩ := h9 q3 hq3
                    obtain ⟨e3, t3, m3⟩ := q3
                    cases e3 with
                    | nrm =>
                      dsimp only at h10
                      dsimp only
                      split at h10
                      · rename_i hx1 hx
                        cases h10
                        rw [hx]
                        have := hK (.u (.b true), m3.set m.length .tk) (h8 _ (h11 _ (by simp)))
                        rw [ms_set]; exact this
                      · cases h10
                    | ext i => cases h10
                    | ret => cases h10
                  | ext i => cases h7
                  | ret => cases h7
                · cases h3
              · obtain ⟨a, h4, h5⟩ := h3 r1 hr1
                split at h4
                · rename_i x hx
                  refine retF_ok hx ?_
                  split at h4
                  · rename_i htk
                    cases h4
                    rw [htk]
                    have := hQ (.nrm, t, x.2.set m.length .x) (h5 _ (by simp))
                    dsimp only [isY]
                    rw [ms_set]; exact this
                  · cases h4
                · cases h4
        · cases h
  | _ => intro Y Z hY hr ro t m rs Q h hQ; simp [cCode] at h
noncomputable def runF (P : Program) (E : SPE P) (inl : List Nat) (nl : Nat) (n : Nat) : SelfYE :=
  Nat.rec (motive := fun _ => SelfYE) (fun _ _ _ _ _ _ _ => none) (fun _ ih Y _ ro hr c t m => (cCode P E inl nl c).r ih Y hr ro t m) n
theorem runF_ok {P : Program} {E : SPE P} {inl : List Nat} {nl : Nat} : ∀ (n : Nat) {Y : YE} {Z : YC}, Y.Ok Z → SelfEOk (runF P E inl nl n Y) (runS P (HE E inl nl) n Z)
  | 0, _, _, _ => fun h _ => by cases h
  | n + 1, _, _, hY => fun h hQ => cCode_ok (self := runS P (HE E inl nl) n) (runF_ok n) _ hY h hQ
def endTE (x : V) (m : Mem) (ix : List Nat) : Option (V × Mem) :=
  cond (allIn ix (refsV x) && allIn ix (ix.flatMap fun b => refsA (mg m b)) && below m.length ix) (some (renV (fun b => posL ix b 0) x, subM m ix)) none
def endE (own : Bool) (n : Nat) (r : V × Mem) : Option (V × Mem) :=
  match frzX own r.2 r.1 with
  | none => none
  | some (x1, m1) => endTE x1 m1 (clo m1 1000 (refsV x1 ++ (m1.take n).flatMap refsA) (List.range n))
theorem endE_ok {own : Bool} {n : Nat} {r x : V × Mem} {Q : V → Mem → Prop} (h : endE own n r = some x) (hQ : Q x.1 x.2) : endS own n Q r.1 r.2 := by
  unfold endE at h
  unfold endS
  split at h
  · cases h
  · rename_i x1 m1 hf
    rw [hf]
    dsimp only
    unfold endTE at h
    unfold endT
    obtain ⟨h1, h2⟩ := condO h
    cases h2
    rw [h1]; exact hQ
end Go.Proofs.YtedpdommppfmdaaGreat

/- The fast evaluator, part f: a run piece by piece. -/
set_option linter.unusedVariables false
namespace Go.Proofs.YtedpdommppfmdaaGreat
open Go
variable {P : Program} {E : SPE P} {inl : List Nat} {nl n : Nat}
noncomputable abbrev CodeE (P : Program) (E : SPE P) (inl : List Nat) (nl n : Nat) (c : Code) (t : Fr) (m : Mem) : Option Ress := (cCode P E inl nl c).r (runF P E inl nl n) .out [] [] t m
noncomputable def evK (P : Program) (E : SPE P) (inl : List Nat) (nl n : Nat) : Nat → Code → Fr → Mem → Option (Fr × Mem)
  | 0, _, t, m => some (t, m)
  | k + 1, .seq x y, t, m => match CodeE P E inl nl n x t m with
    | some [(.nrm, t1, m1)] => evK P E inl nl n k y t1 m1
    | _ => none
  | _ + 1, _, _, _ => none
def dropK : Nat → Code → Code
  | 0, c => c
  | k + 1, .seq _ y => dropK k y
  | _ + 1, c => c
def bodyOf (fn : Func) : Code := match fn.body with
  | some c => c
  | none => .skip
end Go.Proofs.YtedpdommppfmdaaGreat

/- Lemmas for proofs of what the symbolic engine asks: lists in loops, data, ends of calls. -/
set_option linter.unusedVariables false
namespace Go.Proofs.YtedpdommppfmdaaGreat
open Go Go.Proofs
structure Suf {α : Type} (L : List α) (x : Int) (l : List α) : Prop where
  k : ∃ k : Nat, x = k ∧ L.drop k = l
  b : L.length ≤ 1000000000000
section
variable {α β : Type} {L l : List α} {a : α} {x : Int} {e : α → β}
theorem Suf.zero (h : L.length ≤ 1000000000000) : Suf L 0 L := ⟨⟨0, rfl, rfl⟩, h⟩
theorem Suf.lt (s : Suf L x (a :: l)) : 0 ≤ x ∧ x < L.length := by
  obtain ⟨⟨k, rfl, hk⟩, -⟩ := s
  have : k < L.length := by
    apply Decidable.byContradiction
    intro hc
    rw [List.drop_eq_nil_of_le (by omega)] at hk
    cases hk
  omega
theorem Suf.nlt (s : Suf L x []) : ¬ x < L.length := by
  obtain ⟨⟨k, rfl, hk⟩, -⟩ := s
  have := List.drop_eq_nil_iff.1 hk
  omega
theorem Suf.wr (s : Suf L x (a :: l)) : IntKind.wrap .i64 (x + 1) = x + 1 := by
  have := s.lt
  have := s.b
  exact w64 (by omega) (by omega)
theorem Suf.succ (s : Suf L x (a :: l)) : Suf L (x + 1) l := by
  obtain ⟨⟨k, rfl, hk⟩, hb⟩ := s
  refine ⟨⟨k + 1, rfl, ?_⟩, hb⟩
  rw [show k + 1 = k + 1 from rfl, ← List.drop_drop, hk]
  rfl
theorem Suf.get (s : Suf L x (a :: l)) : L[x.toNat]? = some a := by
  obtain ⟨⟨k, rfl, hk⟩, -⟩ := s
  have := congrArg List.head? hk
  simpa [List.head?_drop] using this
theorem Suf.d1 (s : Suf L x (a :: l)) : decide (x < ((L.map e).length : Int)) = true := by
  rw [List.length_map]; exact decide_eq_true s.lt.2
theorem Suf.d0 (s : Suf L x []) : decide (x < ((L.map e).length : Int)) = false := by
  rw [List.length_map]; exact decide_eq_false s.nlt
theorem elL_of {γ : Type} {R : List γ} {r : γ} {K : γ → Prop} (h0 : 0 ≤ x) (h : R[x.toNat]? = some r) : elL R x K = K r := by
  obtain ⟨k, rfl⟩ := Int.eq_ofNat_of_zero_le h0
  simp only [Int.toNat_natCast] at h
  show (match R[k]? with | some r => K r | none => False) = K r
  rw [h]
theorem Suf.el (s : Suf L x (a :: l)) {K : β → Prop} : elL (L.map e) x K = K (e a) :=
  elL_of s.lt.1 (by rw [List.getElem?_map, s.get]; rfl)
def SufI (L : List α) (P : List α → Prop) (x : Int) : Prop := ∃ l, Suf L x l ∧ P l
def SufM (L : List α) (x : Int) : Nat := (L.length - x).toNat
variable {P : List α → Prop}
theorem SufI.zero (h : L.length ≤ 1000000000000) (h0 : P L) : SufI L P 0 := ⟨L, .zero h, h0⟩
theorem Suf.me (s : Suf L x (a :: l)) : SufM L (x + 1) < SufM L x := by
  have := s.lt
  unfold SufM
  omega
theorem Suf.step (s : Suf L x (a :: l)) (h : P l) : SufI L P (IntKind.wrap .i64 (x + 1)) ∧ SufM L (IntKind.wrap .i64 (x + 1)) < SufM L x := by
  rw [s.wr]
  exact ⟨⟨l, s.succ, h⟩, s.me⟩
end
structure At {α : Type} (L : List α) (x : Int) (t l : List α) : Prop where
  e : L = t ++ l
  k : x = t.length
  b : L.length ≤ 1000000000000
section
variable {α β : Type} {L l t : List α} {a : α} {x : Int} {e : α → β}
theorem At.suf (s : At L x t l) : Suf L x l := ⟨⟨t.length, s.k, by rw [s.e, List.drop_left]⟩, s.b⟩
theorem At.zero (h : L.length ≤ 1000000000000) : At L 0 [] L := ⟨rfl, rfl, h⟩
theorem At.succ (s : At L x t (a :: l)) : At L (x + 1) (t ++ [a]) l := ⟨by rw [s.e]; simp, by rw [s.k]; simp, s.b⟩
theorem At.d1 (s : At L x t (a :: l)) : decide (x < ((L.map e).length : Int)) = true := s.suf.d1
theorem At.d0 (s : At L x t []) : decide (x < ((L.map e).length : Int)) = false := s.suf.d0
theorem At.el (s : At L x t (a :: l)) {K : β → Prop} : elL (L.map e) x K = K (e a) := s.suf.el
theorem At.all (s : At L x t []) : t = L := by rw [s.e]; simp
def AtI (L : List α) (P : List α → List α → Prop) (x : Int) : Prop := ∃ t l, At L x t l ∧ P t l
theorem AtI.zero {P : List α → List α → Prop} (h : L.length ≤ 1000000000000) (h0 : P [] L) : AtI L P 0 := ⟨[], L, .zero h, h0⟩
theorem At.step {P : List α → List α → Prop} (s : At L x t (a :: l)) (h : P (t ++ [a]) l) : AtI L P (IntKind.wrap .i64 (x + 1)) ∧ SufM L (IntKind.wrap .i64 (x + 1)) < SufM L x := by
  rw [s.suf.wr]
  exact ⟨⟨_, l, s.succ, h⟩, s.suf.me⟩
end
section
variable {r : List U} {u : U} {K : Int → Prop} {n : Int} {s j : Nat}
theorem ug0 : ug (u :: r) 0 = some u := rfl
theorem ugs : ug (u :: r) (j + 1) = ug r j := rfl
theorem dI_n : dI .i64 (some (.n n)) K = K n := rfl
theorem dL_l {c : List (List U)} {K : List (List U) → Prop} : dL s (some (.l s c)) K = K c := by
  show cond (Nat.beq s s) (K c) False = K c
  rw [show Nat.beq s s = true from Nat.beq_refl s]; rfl
theorem oP_s {α : Type} {c : α} {K : α → Prop} : oP (some c) K = K c := rfl
end
theorem idxK_of {i : Int} {n : Nat} {K : Nat → Prop} (j : Nat) (hj : i = j) (h : j < n) (k : K j) : idxK i n K := by
  subst hj
  show cond (Nat.ble (j + 1) n) (K j) False
  rw [Nat.ble_eq_true_of_le h]; exact k
section
variable {m : Mem} {n n' : Int} {b : Bool} {s z z' E : Nat} {r r' : List (List U)} {x : ByteArray} {p : Option (List U)}
theorem post_I {F : Int → Prop} : post [.I] [] F (.i n) m = F n := rfl
theorem post_B {F : Bool → Prop} : post [.B] [] F (.u (.b b)) m = F b := rfl
theorem post_L {F : List (List U) → Prop} : post [.L z] [] F (.l z r) m = F r := by
  simp only [post, resX, pkR, pkV, pk1, Nat.beq_refl, cond_true]; rfl
theorem post_LI {F : List (List U) → Int → Prop} : post [.L z, .I] [] F (.t [.l z r, .i n]) m = F r n := by
  simp only [post, resX, pkR, pkV, pk1, Nat.beq_refl, cond_true]; rfl
theorem post_PLI {F : Option (List U) → List (List U) → Int → Prop} : post [.one .p, .L z, .I] [] F (.t [.u (.p p), .l z r, .i n]) m = F p r n := by
  simp only [post, resX, pkR, pkV, pk1, Nat.beq_refl, cond_true]; rfl
theorem post_Brow {F : Bool → List (List U) → Prop} : post [.B] [.row E z] F (.u (.b b)) [.w E z r] = F b r := by
  simp only [post, resX, pkR, pkV, pk1, show List.range [BP.row E z].length = [0] from rfl, pkB, pkB1, mg, Nat.beq_refl, cond_true, Bool.and_self]; rfl
end
theorem dup {A : Prop} (h : A) : dup2 A := ⟨h, h⟩
theorem PRun.mono {P : Program} {g : FuncId} {m : Mem} {args : List V} {Q Q' : V → Mem → Prop} (h : PRun P g m args Q) (k : ∀ x m', Q x m' → Q' x m') : PRun P g m args Q' :=
  fun D ρ chs C hp vs M F => (h D ρ chs C hp vs M F).mono fun _ _ ⟨D', ρ', chs', x, m', a, b, c, d⟩ => ⟨D', ρ', chs', x, m', a, b, c, k _ _ d⟩
end Go.Proofs.YtedpdommppfmdaaGreat

/- What the functions do, written by program (psv.py) and held against the program by the kernel. -/
set_option linter.unusedVariables false
set_option maxRecDepth 100000
namespace Go.Proofs.YtedpdommppfmdaaGreat
open Go Go.Proofs
theorem mixT1 : Tryz.prog.follows .mixedOrders = true := by kernel_rfl
theorem S143 {l : List (List U)} {types : Int} {Q : V → Mem → Prop} (hh : ∃ (I1 : Int → Int → Prop) (f1 : Int → Int → Nat), I1 0 0 ∧ (∀ x1 : Int, ∀ x2 : Int, I1 x1 x2 → (bif decide (x2 < (List.length l : Int)) then elL l x2 (fun r1 => dI .i64 (ug r1 0) (fun x3 => dI .i64 (ug r1 1) (fun x4 => (bif decide (x3 ≤ x1) then Q (.i 1) [] else (bif decide (x3 > types) then Q (.i 1) [] else (bif decide (x4 < 1) then Q (.i 1) [] else (bif decide (x4 > 1125899906842624) then Q (.i 1) [] else I1 x3 (IntKind.wrap .i64 (x2 + 1)) ∧ f1 x3 (IntKind.wrap .i64 (x2 + 1)) < f1 x1 x2))))))) else (bif decide ((List.length l : Int) > 8) then Q (.i 1) [] else Q (.i 0) [])))) : PRun Tryz.prog 143 [] [.l 2 l, .i types] Q :=
  funS2 mixT1 Tryz.func143 (by kernel_rfl) (H := ⟨[((143, 3, 0), ⟨[(5, .I), (10, .I)], []⟩)], [], [], [], [], false, 64, KN.no, false, SP.no⟩) (n := 2) (by kernel_rfl) hh
theorem S76 {l : List (List U)} {kind : Int} {Q : V → Mem → Prop} (hh : PRun Tryz.prog 145 [] [.l 2 l] (post [.L 2, .I] [] (fun l1 x1 => ∃ (I1 : Int → Prop) (f1 : Int → Nat), I1 0 ∧ (∀ x2 : Int, I1 x2 → (bif decide (x2 < (List.length l1 : Int)) then elL l1 x2 (fun r1 => dI .i64 (ug r1 0) (fun x3 => (bif x3 == kind then elL l1 x2 (fun r2 => dI .i64 (ug r2 1) (fun x4 => Q (.i x4) [])) else I1 (IntKind.wrap .i64 (x2 + 1)) ∧ f1 (IntKind.wrap .i64 (x2 + 1)) < f1 x2))) else Q (.i 0) []))))) : PRun Tryz.prog 76 [] [.l 2 l, .i kind] Q :=
  funS2 mixT1 Tryz.func76 (by kernel_rfl) (H := ⟨[((76, 3, 0), ⟨[(7, .I)], []⟩)], [], [], [], [], false, 64, KN.no, false, SP.no⟩) (n := 2) (by kernel_rfl) hh
theorem S145 {l : List (List U)} {Q : V → Mem → Prop} (hh : ∃ (I1 : Int → Prop) (f1 : Int → Nat), I1 0 ∧ (∀ x1 : Int, I1 x1 → (bif decide (x1 < (List.length l : Int)) then elL l x1 (fun r1 => dI .i64 (ug r1 0) (fun x2 => (bif decide (x2 < 1) then Q (.t [.l 2 [], .i 1]) [] else elL l x1 (fun r2 => dI .i64 (ug r2 1) (fun x3 => (bif decide (x3 < 0) then Q (.t [.l 2 [], .i 1]) [] else I1 (IntKind.wrap .i64 (x1 + 1)) ∧ f1 (IntKind.wrap .i64 (x1 + 1)) < f1 x1)))))) else ∃ (I2 : List (List U) → Int → Prop) (f2 : List (List U) → Int → Nat), I2 [] 0 ∧ (∀ l1 : List (List U), ∀ x4 : Int, I2 l1 x4 → ∃ (I3 : Int → Int → Prop) (f3 : Int → Int → Nat), I3 0 0 ∧ (∀ x5 : Int, ∀ x6 : Int, I3 x5 x6 → (bif decide (x6 < (List.length l : Int)) then elL l x6 (fun r3 => dI .i64 (ug r3 0) (fun x7 => (bif decide (x7 > x4) then (bif x5 == 0 then elL l x6 (fun r4 => dI .i64 (ug r4 0) (fun x8 => I3 x8 (IntKind.wrap .i64 (x6 + 1)) ∧ f3 x8 (IntKind.wrap .i64 (x6 + 1)) < f3 x5 x6)) else elL l x6 (fun r5 => dI .i64 (ug r5 0) (fun x9 => (bif decide (x9 < x5) then elL l x6 (fun r6 => dI .i64 (ug r6 0) (fun x10 => I3 x10 (IntKind.wrap .i64 (x6 + 1)) ∧ f3 x10 (IntKind.wrap .i64 (x6 + 1)) < f3 x5 x6)) else I3 x5 (IntKind.wrap .i64 (x6 + 1)) ∧ f3 x5 (IntKind.wrap .i64 (x6 + 1)) < f3 x5 x6)))) else I3 x5 (IntKind.wrap .i64 (x6 + 1)) ∧ f3 x5 (IntKind.wrap .i64 (x6 + 1)) < f3 x5 x6))) else (bif x5 == 0 then Q (.t [.l 2 l1, .i 0]) [] else ∃ (I4 : Int → Int → Prop) (f4 : Int → Int → Nat), I4 0 0 ∧ (∀ x11 : Int, ∀ x12 : Int, I4 x11 x12 → (bif decide (x12 < (List.length l : Int)) then elL l x12 (fun r7 => dI .i64 (ug r7 0) (fun x13 => (bif x13 == x5 then elL l x12 (fun r8 => dI .i64 (ug r8 1) (fun x14 => (bif decide (x14 > IntKind.wrap .i64 (1125899906842624 - x11)) then Q (.t [.l 2 [], .i 5]) [] else elL l x12 (fun r9 => dI .i64 (ug r9 1) (fun x15 => I4 (IntKind.wrap .i64 (x11 + x15)) (IntKind.wrap .i64 (x12 + 1)) ∧ f4 (IntKind.wrap .i64 (x11 + x15)) (IntKind.wrap .i64 (x12 + 1)) < f4 x11 x12))))) else I4 x11 (IntKind.wrap .i64 (x12 + 1)) ∧ f4 x11 (IntKind.wrap .i64 (x12 + 1)) < f4 x11 x12))) else (bif decide (x11 > 0) then apOk l1 [[.n x5, .n x11]] ∧ (I2 (l1 ++ [[.n x5, .n x11]]) x5 ∧ f2 (l1 ++ [[.n x5, .n x11]]) x5 < f2 l1 x4) else I2 l1 x5 ∧ f2 l1 x5 < f2 l1 x4)))))))))) : PRun Tryz.prog 145 [] [.l 2 l] Q :=
  funS2 mixT1 Tryz.func145 (by kernel_rfl) (H := ⟨[((145, 2, 0), ⟨[(4, .I)], []⟩), ((145, 8, 0), ⟨[(5, .one (.ow 122 2)), (6, .I)], []⟩), ((145, 10, 1), ⟨[(7, .I), (8, .I)], []⟩), ((145, 18, 1), ⟨[(9, .I), (10, .I)], []⟩)], [], [], [], [], false, 64, KN.no, false, SP.no⟩) (n := 2) (by kernel_rfl) hh
theorem S146 {a : List (List U)} {b : List (List U)} {Q : V → Mem → Prop} (hh : bif (List.length a : Int) != (List.length b : Int) then Q (.u (.b false)) [] else ∃ (I1 : Int → Prop) (f1 : Int → Nat), I1 0 ∧ (∀ x1 : Int, I1 x1 → (bif decide (x1 < (List.length a : Int)) then (bif decide (x1 < (List.length b : Int)) then elL a x1 (fun r1 => dI .i64 (ug r1 0) (fun x2 => dI .i64 (ug r1 1) (fun x3 => elL b x1 (fun r2 => dI .i64 (ug r2 0) (fun x4 => dI .i64 (ug r2 1) (fun x5 => (bif !(x2 == x4 && (x3 == x5 && true)) then Q (.u (.b false)) [] else I1 (IntKind.wrap .i64 (x1 + 1)) ∧ f1 (IntKind.wrap .i64 (x1 + 1)) < f1 x1))))))) else Q (.u (.b true)) []) else Q (.u (.b true)) []))) : PRun Tryz.prog 146 [] [.l 2 a, .l 2 b] Q :=
  funS2 mixT1 Tryz.func146 (by kernel_rfl) (H := ⟨[((146, 4, 0), ⟨[(5, .I)], []⟩)], [], [], [], [], false, 64, KN.no, false, SP.no⟩) (n := 2) (by kernel_rfl) hh
theorem S75 {l : List (List U)} {types : Int} {Q : V → Mem → Prop} (hh : bif decide ((List.length l : Int) > 8) then Q (.i 1) [] else PRun Tryz.prog 145 [] [.l 2 l] (post [.L 2, .I] [] (fun l1 x1 => (bif x1 != 0 then Q (.i 1) [] else PRun Tryz.prog 146 [] [.l 2 l1, .l 2 l] (post [.B] [] (fun b1 => (bif !b1 then Q (.i 1) [] else (bif decide ((List.length l : Int) > 0) then elL l (IntKind.wrap .i64 ((List.length l : Int) - 1)) (fun r1 => dI .i64 (ug r1 0) (fun x2 => (bif decide (x2 > types) then Q (.i 1) [] else Q (.i 0) []))) else Q (.i 0) []) : Prop))) : Prop)))) : PRun Tryz.prog 75 [] [.l 2 l, .i types] Q :=
  funS2 mixT1 Tryz.func75 (by kernel_rfl) (H := ⟨[], [], [], [], [], false, 64, KN.no, false, SP.no⟩) (n := 2) (by kernel_rfl) hh
theorem S139 {x : List (List U)} {Q : V → Mem → Prop} (hh : bif decide ((List.length x : Int) < 1) then False else elL x 0 (fun r1 => dI .i64 (ug r1 0) (fun x1 => ∃ (I1 : Int → Int → Prop) (f1 : Int → Int → Nat), I1 x1 1 ∧ (∀ x2 : Int, ∀ x3 : Int, I1 x2 x3 → (bif decide (x3 < (List.length x : Int)) then elL x x3 (fun r2 => dI .i64 (ug r2 0) (fun x4 => I1 (if x4 > x2 then x4 else x2) (IntKind.wrap .i64 (x3 + 1)) ∧ f1 (if x4 > x2 then x4 else x2) (IntKind.wrap .i64 (x3 + 1)) < f1 x2 x3)) else Q (.i x2) []))))) : PRun Tryz.prog 139 [] [.l 1 x] Q :=
  funS2 mixT1 Tryz.func139 (by kernel_rfl) (H := ⟨[((139, 5, 0), ⟨[(3, .I), (4, .I)], []⟩)], [], [], [], [], false, 64, KN.no, false, SP.no⟩) (n := 2) (by kernel_rfl) hh
theorem S74 {n : Int} {from0 : Int} {to0 : Int} {Q : V → Mem → Prop} (hh : bif decide (n ≥ from0) then Q (.u (.b (decide (n ≤ to0)))) [] else Q (.u (.b false)) []) : PRun Tryz.prog 74 [] [.i n, .i from0, .i to0] Q :=
  funS2 mixT1 Tryz.func74 (by kernel_rfl) (H := ⟨[], [], [], [], [], false, 64, KN.no, false, SP.no⟩) (n := 2) (by kernel_rfl) hh
theorem S138 {c_0 : Int} {c_1 : List (List U)} {c_2 : Int} {c_3 : List (List U)} {c_4 : Int} {c_5 : Int} {c_6 : Int} {c_7 : Int} {Q : V → Mem → Prop} (hh : ∃ (I1 : List (List U) → Int → Prop) (f1 : List (List U) → Int → Nat), I1 [] 0 ∧ (∀ l1 : List (List U), ∀ x1 : Int, I1 l1 x1 → (bif decide (x1 < (List.length c_1 : Int)) then elL c_1 x1 (fun r1 => dI .i64 (ug r1 0) (fun x2 => dI .i64 (ug r1 1) (fun x3 => dI .i64 (ug r1 2) (fun x4 => dL 2 (ug r1 3) (fun l2 => dI .i64 (ug r1 4) (fun x5 => dI .i64 (ug r1 5) (fun x6 => dI .i64 (ug r1 6) (fun x7 => ∃ (I2 : List (List U) → Int → Prop) (f2 : List (List U) → Int → Nat), I2 l1 0 ∧ (∀ l3 : List (List U), ∀ x8 : Int, I2 l3 x8 → (bif decide (x8 < (List.length l2 : Int)) then elL l2 x8 (fun r2 => dI .i64 (ug r2 0) (fun x9 => dI .i64 (ug r2 1) (fun x10 => apOk l3 [[.n x2, .n x9]] ∧ (I2 (l3 ++ [[.n x2, .n x9]]) (IntKind.wrap .i64 (x8 + 1)) ∧ f2 (l3 ++ [[.n x2, .n x9]]) (IntKind.wrap .i64 (x8 + 1)) < f2 l3 x8)))) else I1 l3 (IntKind.wrap .i64 (x1 + 1)) ∧ f1 l3 (IntKind.wrap .i64 (x1 + 1)) < f1 l1 x1)))))))))) else Q (.l 2 l1) []))) : PRun Tryz.prog 138 [] [.a [.i c_0, .l 7 c_1, .i c_2, .l 4 c_3, .i c_4, .i c_5, .i c_6, .i c_7]] Q :=
  funS2 mixT1 Tryz.func138 (by kernel_rfl) (H := ⟨[((138, 3, 1), ⟨[(3, .one (.ow 163 2)), (11, .I)], []⟩), ((138, 6, 3), ⟨[(3, .one (.ow 163 2)), (18, .I)], []⟩)], [], [], [], [], false, 64, KN.no, false, SP.no⟩) (n := 2) (by kernel_rfl) hh
theorem S136 {c_0 : Int} {c_1 : List (List U)} {c_2 : Int} {c_3 : List (List U)} {c_4 : Int} {c_5 : Int} {c_6 : Int} {c_7 : Int} {Q : V → Mem → Prop} (hh : ∀ k1 : Bool → Prop, (∀ b1 : Bool, (∀ k2 : Bool → Prop, (∀ b2 : Bool, (Q (.u (.b b2)) []) → k2 b2) → (bif b1 then ∃ (I1 : Int → Prop) (f1 : Int → Nat), I1 0 ∧ (∀ x1 : Int, I1 x1 → (bif decide (x1 < (List.length c_1 : Int)) then elL c_1 x1 (fun r1 => dI .i64 (ug r1 0) (fun x2 => dI .i64 (ug r1 1) (fun x3 => dI .i64 (ug r1 2) (fun x4 => dL 2 (ug r1 3) (fun l1 => dI .i64 (ug r1 4) (fun x5 => dI .i64 (ug r1 5) (fun x6 => dI .i64 (ug r1 6) (fun x7 => PRun Tryz.prog 191 [] [.a [.i x2, .i x3, .i x4, .l 2 l1, .i x5, .i x6, .i x7], .i c_0] (post [.I] [] (fun x8 => (bif x8 != 0 then (bif !(decide (x1 ≥ 0)) then ∃ (I2 : Int → Prop) (f2 : Int → Nat), I2 0 ∧ (∀ x9 : Int, I2 x9 → (bif decide (x9 < (List.length c_3 : Int)) then elL c_3 x9 (fun r2 => dI .i64 (ug r2 0) (fun x10 => dI .i64 (ug r2 1) (fun x11 => dI .i64 (ug r2 2) (fun x12 => dI .i64 (ug r2 3) (fun x13 => PRun Tryz.prog 189 [] [.i x10, .i 1, .i c_2] (post [.B] [] (fun b3 => (bif !b3 then (bif !(decide (x9 ≥ 0)) then PRun Tryz.prog 195 [] [.a [.i c_5, .i c_6, .i c_7]] (post [.I] [] (fun x14 => (k2 (x14 == 0) : Prop))) else k2 false) else PRun Tryz.prog 189 [] [.i x11, .i 0, .i 8] (post [.B] [] (fun b4 => (bif !b4 then (bif !(decide (x9 ≥ 0)) then PRun Tryz.prog 195 [] [.a [.i c_5, .i c_6, .i c_7]] (post [.I] [] (fun x15 => (k2 (x15 == 0) : Prop))) else k2 false) else PRun Tryz.prog 189 [] [.i x12, .i 0, .i 8] (post [.B] [] (fun b5 => (bif !b5 then (bif !(decide (x9 ≥ 0)) then PRun Tryz.prog 195 [] [.a [.i c_5, .i c_6, .i c_7]] (post [.I] [] (fun x16 => (k2 (x16 == 0) : Prop))) else k2 false) else PRun Tryz.prog 189 [] [.i x13, .i 0, .i 10000] (post [.B] [] (fun b6 => (bif !b6 then (bif !(decide (x9 ≥ 0)) then PRun Tryz.prog 195 [] [.a [.i c_5, .i c_6, .i c_7]] (post [.I] [] (fun x17 => (k2 (x17 == 0) : Prop))) else k2 false) else I2 (IntKind.wrap .i64 (x9 + 1)) ∧ f2 (IntKind.wrap .i64 (x9 + 1)) < f2 x9 : Prop))) : Prop))) : Prop))) : Prop)))))))) else PRun Tryz.prog 195 [] [.a [.i c_5, .i c_6, .i c_7]] (post [.I] [] (fun x18 => (k2 (x18 == 0) : Prop))))) else k2 false) else I1 (IntKind.wrap .i64 (x1 + 1)) ∧ f1 (IntKind.wrap .i64 (x1 + 1)) < f1 x1 : Prop))))))))))) else ∃ (I3 : Int → Prop) (f3 : Int → Nat), I3 0 ∧ (∀ x19 : Int, I3 x19 → (bif decide (x19 < (List.length c_3 : Int)) then elL c_3 x19 (fun r3 => dI .i64 (ug r3 0) (fun x20 => dI .i64 (ug r3 1) (fun x21 => dI .i64 (ug r3 2) (fun x22 => dI .i64 (ug r3 3) (fun x23 => PRun Tryz.prog 189 [] [.i x20, .i 1, .i c_2] (post [.B] [] (fun b7 => (bif !b7 then (bif !(decide (x19 ≥ 0)) then PRun Tryz.prog 195 [] [.a [.i c_5, .i c_6, .i c_7]] (post [.I] [] (fun x24 => (k2 (x24 == 0) : Prop))) else k2 false) else PRun Tryz.prog 189 [] [.i x21, .i 0, .i 8] (post [.B] [] (fun b8 => (bif !b8 then (bif !(decide (x19 ≥ 0)) then PRun Tryz.prog 195 [] [.a [.i c_5, .i c_6, .i c_7]] (post [.I] [] (fun x25 => (k2 (x25 == 0) : Prop))) else k2 false) else PRun Tryz.prog 189 [] [.i x22, .i 0, .i 8] (post [.B] [] (fun b9 => (bif !b9 then (bif !(decide (x19 ≥ 0)) then PRun Tryz.prog 195 [] [.a [.i c_5, .i c_6, .i c_7]] (post [.I] [] (fun x26 => (k2 (x26 == 0) : Prop))) else k2 false) else PRun Tryz.prog 189 [] [.i x23, .i 0, .i 10000] (post [.B] [] (fun b10 => (bif !b10 then (bif !(decide (x19 ≥ 0)) then PRun Tryz.prog 195 [] [.a [.i c_5, .i c_6, .i c_7]] (post [.I] [] (fun x27 => (k2 (x27 == 0) : Prop))) else k2 false) else I3 (IntKind.wrap .i64 (x19 + 1)) ∧ f3 (IntKind.wrap .i64 (x19 + 1)) < f3 x19 : Prop))) : Prop))) : Prop))) : Prop)))))))) else PRun Tryz.prog 195 [] [.a [.i c_5, .i c_6, .i c_7]] (post [.I] [] (fun x28 => (k2 (x28 == 0) : Prop))))))) else k2 false)) → k1 b1) → PRun Tryz.prog 189 [] [.i c_0, .i 1, .i 32] (post [.B] [] (fun b11 => (bif b11 then PRun Tryz.prog 189 [] [.i c_2, .i 1, .i 8] (post [.B] [] (fun b12 => (bif b12 then PRun Tryz.prog 189 [] [.i c_4, .i 1, .i 16] (post [.B] [] (fun b13 => (bif b13 then (bif decide ((List.length c_1 : Int) ≤ 16) then k1 (decide ((List.length c_3 : Int) ≤ 8)) else k1 false) else k1 false : Prop))) else k1 false : Prop))) else k1 false : Prop)))) : PRun Tryz.prog 136 [] [.a [.i c_0, .l 7 c_1, .i c_2, .l 4 c_3, .i c_4, .i c_5, .i c_6, .i c_7]] Q :=
  funS2 mixT1 Tryz.func136 (by kernel_rfl) (H := ⟨[((219, 2, 1), ⟨[(8, .I)], []⟩), ((220, 2, 1), ⟨[(8, .I)], []⟩), ((220, 2, 2), ⟨[(8, .I)], []⟩)], [((136, 0, 1), ⟨[(2, .B)], []⟩), ((136, 2, 1), ⟨[(3, .B)], []⟩)], [190, 192, 193, 194, 219, 220], [], [], false, 64, KN.no, false, SP.no⟩) (n := 5) (by kernel_rfl) hh
theorem S70 {c_0 : Int} {c_1 : List (List U)} {c_2 : Int} {c_3 : List (List U)} {c_4 : Int} {c_5 : Int} {c_6 : Int} {c_7 : Int} {Q : V → Mem → Prop} (hh : PRun Tryz.prog 136 [] [.a [.i c_0, .l 7 c_1, .i c_2, .l 4 c_3, .i c_4, .i c_5, .i c_6, .i c_7]] (post [.B] [] (fun b1 => (bif !b1 then Q (.i 1) [] else PRun Tryz.prog 138 [] [.a [.i c_0, .l 7 c_1, .i c_2, .l 4 c_3, .i c_4, .i c_5, .i c_6, .i c_7]] (post [.L 2] [] (fun l1 => (PRun Tryz.prog 137 [] [.i c_0, .l 2 l1] (post [.L 1, .I] [] (fun l2 x1 => (bif x1 != 0 then Q (.i x1) [] else PRun Tryz.prog 139 [] [.l 1 l2] (post [.I] [] (fun x2 => (bif decide (x2 > 8) then Q (.i 5) [] else Q (.i 0) [] : Prop))) : Prop))) : Prop))) : Prop)))) : PRun Tryz.prog 70 [] [.a [.i c_0, .l 7 c_1, .i c_2, .l 4 c_3, .i c_4, .i c_5, .i c_6, .i c_7]] Q :=
  funS2 mixT1 Tryz.func70 (by kernel_rfl) (H := ⟨[], [], [], [], [], false, 64, KN.no, false, SP.no⟩) (n := 2) (by kernel_rfl) hh
theorem S137 {n : Int} {needs : List (List U)} {Q : V → Mem → Prop} (hh : PRun Tryz.prog 196 [] [.i n, .l 2 needs] (post [.one .p, .L 1, .I] [] (fun p1 l1 x1 => (bif x1 != 0 then Q (.t [.l 1 [], .i x1]) [] else 0 ≤ n ∧ n ≤ 1000000 ∧ n = n ∧ (∃ (I1 : Int → List (List U) → Prop) (f1 : Int → List (List U) → Nat), I1 0 (List.replicate (Int.toNat n) ([.n 0] : List U)) ∧ (∀ x2 : Int, ∀ l2 : List (List U), I1 x2 l2 → (bif decide (x2 < (List.length l1 : Int)) then elL l1 x2 (fun r1 => dI .i64 (ug r1 0) (fun x3 => oP p1 (fun c1 => idxK x3 65 (fun j1 => dL 1 (ug c1 (1 + j1 * 1)) (fun l3 => ∃ (I2 : Int → List (List U) → Prop) (f2 : Int → List (List U) → Nat), I2 0 l2 ∧ (∀ x4 : Int, ∀ l4 : List (List U), I2 x4 l4 → (bif decide (x4 < (List.length l3 : Int)) then elL l3 x4 (fun r2 => dI .i64 (ug r2 0) (fun x5 => 0 ≤ IntKind.wrap .i64 (x3 - 1) ∧ IntKind.wrap .i64 (x3 - 1) < (List.length l4 : Int) ∧ (elL l4 (IntKind.wrap .i64 (x3 - 1)) (fun r3 => dI .i64 (ug r3 0) (fun x6 => 0 ≤ IntKind.wrap .i64 (x5 - 1) ∧ IntKind.wrap .i64 (x5 - 1) < (List.length l4 : Int) ∧ (elL l4 (IntKind.wrap .i64 (x5 - 1)) (fun r4 => dI .i64 (ug r4 0) (fun x7 => 0 ≤ IntKind.wrap .i64 (x3 - 1) ∧ IntKind.wrap .i64 (x3 - 1) < (List.length l4 : Int) ∧ (I2 (IntKind.wrap .i64 (x4 + 1)) (List.set l4 (Int.toNat (IntKind.wrap .i64 (x3 - 1))) [.n (if IntKind.wrap .i64 (x7 + 1) > x6 then IntKind.wrap .i64 (x7 + 1) else x6)]) ∧ f2 (IntKind.wrap .i64 (x4 + 1)) (List.set l4 (Int.toNat (IntKind.wrap .i64 (x3 - 1))) [.n (if IntKind.wrap .i64 (x7 + 1) > x6 then IntKind.wrap .i64 (x7 + 1) else x6)]) < f2 x4 l4))))))))) else I1 (IntKind.wrap .i64 (x2 + 1)) l4 ∧ f1 (IntKind.wrap .i64 (x2 + 1)) l4 < f1 x2 l2))))))) else Q (.t [.l 1 l2, .i 0]) []))) : Prop)))) : PRun Tryz.prog 137 [] [.i n, .l 2 needs] Q :=
  funS2 mixT1 Tryz.func137 (by kernel_rfl) (H := ⟨[((137, 6, 1), ⟨[(28, .I)], [(0, .row 3 1)]⟩), ((137, 9, 1), ⟨[(39, .I)], [(0, .row 3 1)]⟩)], [], [], [], [], false, 64, KN.no, false, SP.no⟩) (n := 2) (by kernel_rfl) hh
theorem S195 {f_0 : Int} {f_1 : Int} {f_2 : Int} {Q : V → Mem → Prop} (hh : PRun Tryz.prog 155 [] [.i f_0] (post [.B] [] (fun b1 => (bif b1 then PRun Tryz.prog 155 [] [.i f_2] (post [.B] [] (fun b2 => (bif b2 then PRun Tryz.prog 221 [] [.i f_1] (post [.B] [] (fun b3 => (bif b3 then Q (.i 0) [] else Q (.i 1) [] : Prop))) else Q (.i 1) [] : Prop))) else Q (.i 1) [] : Prop)))) : PRun Tryz.prog 195 [] [.a [.i f_0, .i f_1, .i f_2]] Q :=
  funS2 mixT1 Tryz.func195 (by kernel_rfl) (H := ⟨[], [], [], [], [], false, 64, KN.no, false, SP.no⟩) (n := 2) (by kernel_rfl) hh
theorem S155 {n : Int} {Q : V → Mem → Prop} (hh : bif decide (n ≥ 0) then Q (.u (.b (decide (n ≤ 10000)))) [] else Q (.u (.b false)) []) : PRun Tryz.prog 155 [] [.i n] Q :=
  funS2 mixT1 Tryz.func155 (by kernel_rfl) (H := ⟨[], [], [], [], [], false, 64, KN.no, false, SP.no⟩) (n := 2) (by kernel_rfl) hh
theorem S221 {n : Int} {Q : V → Mem → Prop} (hh : bif decide (n ≥ 0) then Q (.u (.b (decide (n ≤ 1152921504606846976)))) [] else Q (.u (.b false)) []) : PRun Tryz.prog 221 [] [.i n] Q :=
  funS2 mixT1 Tryz.func221 (by kernel_rfl) (H := ⟨[], [], [], [], [], false, 64, KN.no, false, SP.no⟩) (n := 2) (by kernel_rfl) hh
theorem S8 {c_0 : Int} {c_1 : List (List U)} {c_2 : Int} {c_3 : List (List U)} {c_4 : Int} {c_5 : Int} {c_6 : Int} {c_7 : Int} {Q : V → Mem → Prop} (hh : PRun Tryz.prog 26 [] [.i c_0, .i 1, .i 32] (post [.B] [] (fun b1 => (bif !b1 then Q (.i 1) [] else PRun Tryz.prog 26 [] [.i c_2, .i 1, .i 8] (post [.B] [] (fun b2 => (bif !b2 then Q (.i 1) [] else PRun Tryz.prog 26 [] [.i c_4, .i 1, .i 16] (post [.B] [] (fun b3 => (bif !b3 then Q (.i 1) [] else (bif decide ((List.length c_1 : Int) > 16) then Q (.i 1) [] else (bif decide ((List.length c_3 : Int) > 8) then Q (.i 1) [] else PRun Tryz.prog 27 [] [.a [.i c_5, .i c_6, .i c_7]] (post [.I] [] (fun x1 => (bif x1 != 0 then Q (.i 1) [] else ∃ (I1 : Int → Prop) (f1 : Int → Nat), I1 0 ∧ (∀ x2 : Int, I1 x2 → (bif decide (x2 < (List.length c_1 : Int)) then elL c_1 x2 (fun r1 => dI .i64 (ug r1 0) (fun x3 => dI .i64 (ug r1 1) (fun x4 => dI .i64 (ug r1 2) (fun x5 => dL 2 (ug r1 3) (fun l1 => dI .i64 (ug r1 4) (fun x6 => dI .i64 (ug r1 5) (fun x7 => dI .i64 (ug r1 6) (fun x8 => PRun Tryz.prog 28 [] [.a [.i x3, .i x4, .i x5, .l 2 l1, .i x6, .i x7, .i x8], .i c_0] (post [.I] [] (fun x9 => (bif x9 != 0 then Q (.i 1) [] else I1 (IntKind.wrap .i64 (x2 + 1)) ∧ f1 (IntKind.wrap .i64 (x2 + 1)) < f1 x2 : Prop))))))))))) else ∃ (I2 : Int → Prop) (f2 : Int → Nat), I2 0 ∧ (∀ x10 : Int, I2 x10 → (bif decide (x10 < (List.length c_3 : Int)) then elL c_3 x10 (fun r2 => dI .i64 (ug r2 0) (fun x11 => dI .i64 (ug r2 1) (fun x12 => dI .i64 (ug r2 2) (fun x13 => dI .i64 (ug r2 3) (fun x14 => PRun Tryz.prog 26 [] [.i x11, .i 1, .i c_2] (post [.B] [] (fun b4 => (bif !b4 then Q (.i 1) [] else PRun Tryz.prog 26 [] [.i x12, .i 0, .i 8] (post [.B] [] (fun b5 => (bif !b5 then Q (.i 1) [] else PRun Tryz.prog 26 [] [.i x13, .i 0, .i 8] (post [.B] [] (fun b6 => (bif !b6 then Q (.i 1) [] else PRun Tryz.prog 26 [] [.i x14, .i 0, .i 10000] (post [.B] [] (fun b7 => (bif !b7 then Q (.i 1) [] else I2 (IntKind.wrap .i64 (x10 + 1)) ∧ f2 (IntKind.wrap .i64 (x10 + 1)) < f2 x10 : Prop))) : Prop))) : Prop))) : Prop)))))))) else PRun Tryz.prog 30 [] [.a [.i c_0, .l 7 c_1, .i c_2, .l 4 c_3, .i c_4, .i c_5, .i c_6, .i c_7]] (post [.L 2] [] (fun l2 => (PRun Tryz.prog 29 [] [.i c_0, .l 2 l2] (post [.L 1, .I] [] (fun l3 x15 => (bif x15 != 0 then Q (.i x15) [] else ∃ (I3 : Int → Prop) (f3 : Int → Nat), I3 0 ∧ (∀ x16 : Int, I3 x16 → (bif decide (x16 < (List.length l3 : Int)) then elL l3 x16 (fun r3 => dI .i64 (ug r3 0) (fun x17 => (bif decide (x17 > 8) then Q (.i 5) [] else I3 (IntKind.wrap .i64 (x16 + 1)) ∧ f3 (IntKind.wrap .i64 (x16 + 1)) < f3 x16))) else Q (.i 0) [])) : Prop))) : Prop))))))) : Prop))))) : Prop))) : Prop))) : Prop)))) : PRun Tryz.prog 8 [] [.a [.i c_0, .l 7 c_1, .i c_2, .l 4 c_3, .i c_4, .i c_5, .i c_6, .i c_7]] Q :=
  funS2 mixT1 Tryz.func8 (by kernel_rfl) (H := ⟨[((8, 4, 1), ⟨[(3, .I)], []⟩), ((8, 9, 1), ⟨[(4, .I)], []⟩), ((8, 18, 1), ⟨[(8, .I)], []⟩)], [], [], [], [], false, 64, KN.no, false, SP.no⟩) (n := 2) (by kernel_rfl) hh
theorem S30 {c_0 : Int} {c_1 : List (List U)} {c_2 : Int} {c_3 : List (List U)} {c_4 : Int} {c_5 : Int} {c_6 : Int} {c_7 : Int} {Q : V → Mem → Prop} (hh : ∃ (I1 : List (List U) → Int → Prop) (f1 : List (List U) → Int → Nat), I1 [] 0 ∧ (∀ l1 : List (List U), ∀ x1 : Int, I1 l1 x1 → (bif decide (x1 < (List.length c_1 : Int)) then ∃ (I2 : List (List U) → Int → Prop) (f2 : List (List U) → Int → Nat), I2 l1 0 ∧ (∀ l2 : List (List U), ∀ x2 : Int, I2 l2 x2 → elL c_1 x1 (fun r1 => dL 2 (ug r1 3) (fun l3 => (bif decide (x2 < (List.length l3 : Int)) then elL c_1 x1 (fun r2 => dI .i64 (ug r2 0) (fun x3 => elL c_1 x1 (fun r3 => dL 2 (ug r3 3) (fun l4 => elL l4 x2 (fun r4 => dI .i64 (ug r4 0) (fun x4 => apOk l2 [[.n x3, .n x4]] ∧ (I2 (l2 ++ [[.n x3, .n x4]]) (IntKind.wrap .i64 (x2 + 1)) ∧ f2 (l2 ++ [[.n x3, .n x4]]) (IntKind.wrap .i64 (x2 + 1)) < f2 l2 x2))))))) else I1 l2 (IntKind.wrap .i64 (x1 + 1)) ∧ f1 l2 (IntKind.wrap .i64 (x1 + 1)) < f1 l1 x1)))) else Q (.l 2 l1) []))) : PRun Tryz.prog 30 [] [.a [.i c_0, .l 7 c_1, .i c_2, .l 4 c_3, .i c_4, .i c_5, .i c_6, .i c_7]] Q :=
  funS2 mixT1 Tryz.func30 (by kernel_rfl) (H := ⟨[((30, 3, 1), ⟨[(3, .one (.ow 163 2)), (4, .I)], []⟩), ((30, 6, 2), ⟨[(3, .one (.ow 163 2)), (5, .I)], []⟩)], [], [], [], [], false, 64, KN.no, false, SP.no⟩) (n := 2) (by kernel_rfl) hh
theorem S26 {n : Int} {from0 : Int} {to0 : Int} {Q : V → Mem → Prop} (hh : bif decide (n ≥ from0) then Q (.u (.b (decide (n ≤ to0)))) [] else Q (.u (.b false)) []) : PRun Tryz.prog 26 [] [.i n, .i from0, .i to0] Q :=
  funS2 mixT1 Tryz.func26 (by kernel_rfl) (H := ⟨[], [], [], [], [], false, 64, KN.no, false, SP.no⟩) (n := 2) (by kernel_rfl) hh
theorem S27 {f_0 : Int} {f_1 : Int} {f_2 : Int} {Q : V → Mem → Prop} (hh : bif decide (f_0 < 0) then Q (.i 1) [] else (bif decide (f_0 > 10000) then Q (.i 1) [] else (bif decide (f_2 < 0) then Q (.i 1) [] else (bif decide (f_2 > 10000) then Q (.i 1) [] else (bif decide (f_1 < 0) then Q (.i 1) [] else (bif decide (f_1 > 1152921504606846976) then Q (.i 1) [] else Q (.i 0) [])))))) : PRun Tryz.prog 27 [] [.a [.i f_0, .i f_1, .i f_2]] Q :=
  funS2 mixT1 Tryz.func27 (by kernel_rfl) (H := ⟨[], [], [], [], [], false, 64, KN.no, false, SP.no⟩) (n := 2) (by kernel_rfl) hh
theorem S29 {n : Int} {needs : List (List U)} {Q : V → Mem → Prop} (hh : PRun Tryz.prog 77 [] [.i n, .l 2 needs] (post [.L 1, .I] [] (fun l1 x1 => (bif x1 != 0 then Q (.t [.l 1 [], .i x1]) [] else 0 ≤ n ∧ n ≤ 1000000 ∧ n = n ∧ (∃ (I1 : Int → List (List U) → Prop) (f1 : Int → List (List U) → Nat), I1 0 (List.replicate (Int.toNat n) ([.n 0] : List U)) ∧ (∀ x2 : Int, ∀ l2 : List (List U), I1 x2 l2 → (bif decide (x2 < (List.length l1 : Int)) then ∃ (I2 : Int → List (List U) → Prop) (f2 : Int → List (List U) → Nat), I2 0 l2 ∧ (∀ x3 : Int, ∀ l3 : List (List U), I2 x3 l3 → (bif decide (x3 < (List.length needs : Int)) then elL needs x3 (fun r1 => dI .i64 (ug r1 0) (fun x4 => elL l1 x2 (fun r2 => dI .i64 (ug r2 0) (fun x5 => (bif x4 == x5 then elL l1 x2 (fun r3 => dI .i64 (ug r3 0) (fun x6 => elL l1 x2 (fun r4 => dI .i64 (ug r4 0) (fun x7 => 0 ≤ IntKind.wrap .i64 (x7 - 1) ∧ IntKind.wrap .i64 (x7 - 1) < (List.length l3 : Int) ∧ (elL l3 (IntKind.wrap .i64 (x7 - 1)) (fun r5 => dI .i64 (ug r5 0) (fun x8 => elL needs x3 (fun r6 => dI .i64 (ug r6 1) (fun x9 => 0 ≤ IntKind.wrap .i64 (x9 - 1) ∧ IntKind.wrap .i64 (x9 - 1) < (List.length l3 : Int) ∧ (elL l3 (IntKind.wrap .i64 (x9 - 1)) (fun r7 => dI .i64 (ug r7 0) (fun x10 => 0 ≤ IntKind.wrap .i64 (x6 - 1) ∧ IntKind.wrap .i64 (x6 - 1) < (List.length l3 : Int) ∧ (I2 (IntKind.wrap .i64 (x3 + 1)) (List.set l3 (Int.toNat (IntKind.wrap .i64 (x6 - 1))) [.n (if IntKind.wrap .i64 (x10 + 1) > x8 then IntKind.wrap .i64 (x10 + 1) else x8)]) ∧ f2 (IntKind.wrap .i64 (x3 + 1)) (List.set l3 (Int.toNat (IntKind.wrap .i64 (x6 - 1))) [.n (if IntKind.wrap .i64 (x10 + 1) > x8 then IntKind.wrap .i64 (x10 + 1) else x8)]) < f2 x3 l3))))))))))))) else I2 (IntKind.wrap .i64 (x3 + 1)) l3 ∧ f2 (IntKind.wrap .i64 (x3 + 1)) l3 < f2 x3 l3))))) else I1 (IntKind.wrap .i64 (x2 + 1)) l3 ∧ f1 (IntKind.wrap .i64 (x2 + 1)) l3 < f1 x2 l2)) else Q (.t [.l 1 l2, .i 0]) []))) : Prop)))) : PRun Tryz.prog 29 [] [.i n, .l 2 needs] Q :=
  funS2 mixT1 Tryz.func29 (by kernel_rfl) (H := ⟨[((29, 6, 1), ⟨[(9, .I)], [(0, .row 3 1)]⟩), ((29, 9, 1), ⟨[(10, .I)], [(0, .row 3 1)]⟩)], [], [], [], [], false, 64, KN.no, false, SP.no⟩) (n := 2) (by kernel_rfl) hh
theorem S147 {n : Int} {needs : List (List U)} {Q : V → Mem → Prop} (hh : bif decide (n < 0) then Q (.u (.b false)) [] else (bif decide (n > 64) then Q (.u (.b false)) [] else (bif decide ((List.length needs : Int) > 256) then Q (.u (.b false)) [] else ∃ (I1 : Int → Prop) (f1 : Int → Nat), I1 0 ∧ (∀ x1 : Int, I1 x1 → (bif decide (x1 < (List.length needs : Int)) then elL needs x1 (fun r1 => dI .i64 (ug r1 0) (fun x2 => (bif decide (x2 < 1) then Q (.u (.b false)) [] else elL needs x1 (fun r2 => dI .i64 (ug r2 0) (fun x3 => (bif decide (x3 > n) then Q (.u (.b false)) [] else elL needs x1 (fun r3 => dI .i64 (ug r3 1) (fun x4 => (bif decide (x4 < 1) then Q (.u (.b false)) [] else elL needs x1 (fun r4 => dI .i64 (ug r4 1) (fun x5 => (bif decide (x5 > n) then Q (.u (.b false)) [] else I1 (IntKind.wrap .i64 (x1 + 1)) ∧ f1 (IntKind.wrap .i64 (x1 + 1)) < f1 x1)))))))))))) else Q (.u (.b true)) []))))) : PRun Tryz.prog 147 [] [.i n, .l 2 needs] Q :=
  funS2 mixT1 Tryz.func147 (by kernel_rfl) (H := ⟨[((147, 4, 0), ⟨[(5, .I)], []⟩)], [], [], [], [], false, 64, KN.no, false, SP.no⟩) (n := 2) (by kernel_rfl) hh
theorem S148w {l : List (List U)} {n : Int} {Q : V → Mem → Prop} (hh : ∃ (I1 : Int → Prop) (f1 : Int → Nat), I1 0 ∧ (∀ x1 : Int, I1 x1 → (bif decide (x1 < (List.length l : Int)) then 0 ≤ x1 ∧ x1 < (List.length l : Int) ∧ (elL l x1 (fun r1 => dI .i64 (ug r1 0) (fun x2 => (bif x2 == n then Q (.u (.b true)) [.w 3 1 l] else I1 (IntKind.wrap .i64 (x1 + 1)) ∧ f1 (IntKind.wrap .i64 (x1 + 1)) < f1 x1)))) else Q (.u (.b false)) [.w 3 1 l]))) : PRun Tryz.prog 148 [.w 3 1 l] [.w 0, .i n] Q :=
  funS2 mixT1 Tryz.func148 (by kernel_rfl) (H := ⟨[((148, 2, 1), ⟨[(5, .I)], []⟩)], [], [], [], [], false, 64, KN.no, false, SP.no⟩) (n := 2) (by kernel_rfl) hh
theorem S77 {n : Int} {needs : List (List U)} {Q : V → Mem → Prop} (hh : PRun Tryz.prog 147 [] [.i n, .l 2 needs] (post [.B] [] (fun b1 => (bif !b1 then Q (.t [.l 1 [], .i 1]) [] else ∃ (I1 : List (List U) → Prop) (f1 : List (List U) → Nat), I1 [] ∧ (∀ l1 : List (List U), I1 l1 → (bif decide ((List.length l1 : Int) < n) then ∃ (I2 : Int → Int → Prop) (f2 : Int → Int → Nat), I2 0 n ∧ (∀ x1 : Int, ∀ x2 : Int, I2 x1 x2 → (bif decide (x2 ≥ 1) then PRun Tryz.prog 148 [.w 3 1 l1] [.w 0, .i x2] (post [.B] [.row 3 1] (fun b2 l2 => ((.w 3 1 l2 : AB) = .w 3 1 l1 ∧ (∃ (I3 : Bool → Int → Prop) (f3 : Bool → Int → Nat), I3 (!b2) 0 ∧ (∀ b3 : Bool, ∀ x3 : Int, I3 b3 x3 → (bif decide (x3 < (List.length needs : Int)) then (bif b3 then elL needs x3 (fun r1 => dI .i64 (ug r1 0) (fun x4 => (bif x4 != x2 then I3 true (IntKind.wrap .i64 (x3 + 1)) ∧ f3 true (IntKind.wrap .i64 (x3 + 1)) < f3 b3 x3 else elL needs x3 (fun r2 => dI .i64 (ug r2 1) (fun x5 => PRun Tryz.prog 148 [.w 3 1 l2] [.w 0, .i x5] (post [.B] [.row 3 1] (fun b4 l3 => ((.w 3 1 l3 : AB) = .w 3 1 l2 ∧ (I3 b4 (IntKind.wrap .i64 (x3 + 1)) ∧ f3 b4 (IntKind.wrap .i64 (x3 + 1)) < f3 b3 x3) : Prop)))))))) else I3 false (IntKind.wrap .i64 (x3 + 1)) ∧ f3 false (IntKind.wrap .i64 (x3 + 1)) < f3 b3 x3) else (bif b3 then I2 x2 (IntKind.wrap .i64 (x2 - 1)) ∧ f2 x2 (IntKind.wrap .i64 (x2 - 1)) < f2 x1 x2 else I2 x1 (IntKind.wrap .i64 (x2 - 1)) ∧ f2 x1 (IntKind.wrap .i64 (x2 - 1)) < f2 x1 x2)))) : Prop))) else (bif x1 == 0 then Q (.t [.l 1 [], .i 9]) [] else apOk l1 [[.n x1]] ∧ (I1 (l1 ++ [[.n x1]]) ∧ f1 (l1 ++ [[.n x1]]) < f1 l1)))) else Q (.t [.l 1 l1, .i 0]) [])) : Prop)))) : PRun Tryz.prog 77 [] [.i n, .l 2 needs] Q :=
  funS2 mixT1 Tryz.func77 (by kernel_rfl) (H := ⟨[((77, 4, 0), ⟨[(6, .one (.ow 3 1))], []⟩), ((77, 7, 1), ⟨[(7, .I), (8, .I)], []⟩), ((77, 11, 1), ⟨[(9, .B), (10, .I)], []⟩)], [], [], [148], [], false, 64, KN.no, false, SP.no⟩) (n := 2) (by kernel_rfl) hh
theorem S189 {n : Int} {from0 : Int} {to0 : Int} {Q : V → Mem → Prop} (hh : bif decide (n ≥ from0) then Q (.u (.b (decide (n ≤ to0)))) [] else Q (.u (.b false)) []) : PRun Tryz.prog 189 [] [.i n, .i from0, .i to0] Q :=
  funS2 mixT1 Tryz.func189 (by kernel_rfl) (H := ⟨[], [], [], [], [], false, 64, KN.no, false, SP.no⟩) (n := 2) (by kernel_rfl) hh
theorem S198 {l : List (List U)} {Q : V → Mem → Prop} (hh : ∃ (I1 : Int → Prop) (f1 : Int → Nat), I1 0 ∧ (∀ x1 : Int, I1 x1 → (bif decide (x1 < (List.length l : Int)) then elL l x1 (fun r1 => dI .i64 (ug r1 0) (fun x2 => dI .i64 (ug r1 1) (fun x3 => dI .i64 (ug r1 2) (fun x4 => (bif decide (x2 < x3) then Q (.u (.b false)) [] else (bif decide (x2 > x4) then Q (.u (.b false)) [] else I1 (IntKind.wrap .i64 (x1 + 1)) ∧ f1 (IntKind.wrap .i64 (x1 + 1)) < f1 x1)))))) else Q (.u (.b true)) []))) : PRun Tryz.prog 198 [] [.l 3 l] Q :=
  funS2 mixT1 Tryz.func198 (by kernel_rfl) (H := ⟨[((198, 2, 0), ⟨[(7, .I)], []⟩)], [], [], [], [], false, 64, KN.no, false, SP.no⟩) (n := 2) (by kernel_rfl) hh
theorem S191 {b_0 : Int} {b_1 : Int} {b_2 : Int} {b_3 : List (List U)} {b_4 : Int} {b_5 : Int} {b_6 : Int} {types : Int} {Q : V → Mem → Prop} (hh : PRun Tryz.prog 198 [] [.l 3 [[.n types, .n 0, .n 32], [.n b_0, .n 1, .n types], [.n b_1, .n 1, .n 1048576], [.n b_2, .n 1, .n 1048576], [.n b_4, .n 0, .n 1048576], [.n b_5, .n 0, .n 1048576], [.n b_6, .n 1, .n 1000]]] (post [.B] [] (fun b1 => (bif !b1 then Q (.i 1) [] else PRun Tryz.prog 143 [] [.l 2 b_3, .i types] (post [.I] [] (fun x1 => (bif x1 != 0 then Q (.i 1) [] else PRun Tryz.prog 218 [] [.l 2 b_3, .i b_0] (post [.I] [] (fun x2 => (bif decide (x2 > 0) then Q (.i 1) [] else Q (.i 0) [] : Prop))) : Prop))) : Prop)))) : PRun Tryz.prog 191 [] [.a [.i b_0, .i b_1, .i b_2, .l 2 b_3, .i b_4, .i b_5, .i b_6], .i types] Q :=
  funS2 mixT1 Tryz.func191 (by kernel_rfl) (H := ⟨[], [], [], [], [], false, 64, KN.no, false, SP.no⟩) (n := 2) (by kernel_rfl) hh
theorem S28 {b_0 : Int} {b_1 : Int} {b_2 : Int} {b_3 : List (List U)} {b_4 : Int} {b_5 : Int} {b_6 : Int} {types : Int} {Q : V → Mem → Prop} (hh : PRun Tryz.prog 74 [] [.i types, .i 0, .i 32] (post [.B] [] (fun b1 => (bif !b1 then Q (.i 1) [] else PRun Tryz.prog 74 [] [.i b_0, .i 1, .i types] (post [.B] [] (fun b2 => (bif !b2 then Q (.i 1) [] else PRun Tryz.prog 74 [] [.i b_1, .i 1, .i 1048576] (post [.B] [] (fun b3 => (bif !b3 then Q (.i 1) [] else PRun Tryz.prog 74 [] [.i b_2, .i 1, .i 1048576] (post [.B] [] (fun b4 => (bif !b4 then Q (.i 1) [] else PRun Tryz.prog 74 [] [.i b_4, .i 0, .i 1048576] (post [.B] [] (fun b5 => (bif !b5 then Q (.i 1) [] else PRun Tryz.prog 74 [] [.i b_5, .i 0, .i 1048576] (post [.B] [] (fun b6 => (bif !b6 then Q (.i 1) [] else PRun Tryz.prog 74 [] [.i b_6, .i 1, .i 1000] (post [.B] [] (fun b7 => (bif !b7 then Q (.i 1) [] else PRun Tryz.prog 75 [] [.l 2 b_3, .i types] (post [.I] [] (fun x1 => (bif x1 != 0 then Q (.i 1) [] else PRun Tryz.prog 76 [] [.l 2 b_3, .i b_0] (post [.I] [] (fun x2 => (bif decide (x2 > 0) then Q (.i 1) [] else Q (.i 0) [] : Prop))) : Prop))) : Prop))) : Prop))) : Prop))) : Prop))) : Prop))) : Prop))) : Prop)))) : PRun Tryz.prog 28 [] [.a [.i b_0, .i b_1, .i b_2, .l 2 b_3, .i b_4, .i b_5, .i b_6], .i types] Q :=
  funS2 mixT1 Tryz.func28 (by kernel_rfl) (H := ⟨[], [], [], [], [], false, 64, KN.no, false, SP.no⟩) (n := 2) (by kernel_rfl) hh
end Go.Proofs.YtedpdommppfmdaaGreat

/- Stacks and blueprints, by the symbolic engine: checks, counts. -/
set_option linter.unusedVariables false
namespace Go.Proofs.YtedpdommppfmdaaGreat
open Go Go.Proofs
variable {Q : V → Mem → Prop}
def eS (x : Stk) : List U := [.n x.1, .n x.2]
abbrev Bd := Int × Int × Int
def eF (x : Bd) : List U := [.n x.1, .n x.2.1, .n x.2.2]
def inn (n a b : Int) : Bool := decide (a ≤ n ∧ n ≤ b)
theorem inn_iff {n a b : Int} : inn n a b = true ↔ a ≤ n ∧ n ≤ b := by simp [inn]
theorem inn_c {n a b : Int} (k : Q (.u (.b (inn n a b))) []) : bif decide (n ≥ a) then Q (.u (.b (decide (n ≤ b)))) [] else Q (.u (.b false)) [] := by
  refine cIf (fun h1 => ?_) fun h1 => ?_
  · have : inn n a b = decide (n ≤ b) := by unfold inn; simp [show a ≤ n from h1]
    rwa [← this]
  · have : inn n a b = false := by unfold inn; simp [show ¬ a ≤ n from h1]
    rwa [← this]
section
variable {n a b : Int}
theorem in2_S (k : Q (.u (.b (inn n a b))) []) : PRun Tryz.prog 189 [] [.i n, .i a, .i b] Q := S189 (inn_c k)
theorem in3_S (k : Q (.u (.b (inn n a b))) []) : PRun Tryz.prog 74 [] [.i n, .i a, .i b] Q := S74 (inn_c k)
theorem in4_S (k : Q (.u (.b (inn n a b))) []) : PRun Tryz.prog 26 [] [.i n, .i a, .i b] Q := S26 (inn_c k)
end
def inAll (l : List Bd) : Bool := l.all fun x => inn x.1 x.2.1 x.2.2
theorem fits_S {L : List Bd} (hL : L.length ≤ 1000000) (k : Q (.u (.b (inAll L))) []) : PRun Tryz.prog 198 [] [.l 3 (L.map eF)] Q := by
  refine S198 ⟨SufI L fun l => Q (.u (.b (inAll l))) [], SufM L, .zero (by omega) k, ?_⟩
  rintro x ⟨_ | ⟨a, l⟩, s, k⟩
  · rw [s.d0]; exact k
  · simp only [s.d1, s.el, eF, ug0, ugs, dI_n, cond_true]
    rw [show inAll (a :: l) = (inn a.1 a.2.1 a.2.2 && inAll l) from rfl] at k
    refine cIf (fun h1 => ?_) fun h1 => cIf (fun h2 => ?_) fun h2 => s.step ?_
    iterate 2 rwa [show inn a.1 a.2.1 a.2.2 = false from decide_eq_false (by omega)] at k
    rwa [show inn a.1 a.2.1 a.2.2 = true from decide_eq_true (by omega)] at k
def chkL (types : Int) : Int → List Stk → Bool
  | _, [] => true
  | last, s :: l => decide (last < s.1 ∧ s.1 ≤ types ∧ 1 ≤ s.2 ∧ s.2 ≤ 1125899906842624) && chkL types s.1 l
def chkE (l : List Stk) (types : Int) : Int := if chkL types 0 l = true ∧ l.length ≤ 8 then 0 else 1
theorem pCheck_S {L : List Stk} {types : Int} (hL : L.length ≤ 1000000) (k : Q (.i (chkE L types)) []) : PRun Tryz.prog 143 [] [.l 2 (L.map eS), .i types] Q := by
  refine S143 ⟨fun last x => SufI L (fun l => chkL types 0 L = chkL types last l) x, fun _ => SufM L, .zero (by omega) rfl, ?_⟩
  rintro last x ⟨_ | ⟨a, l⟩, s, k2⟩
  · rw [s.d0, List.length_map]
    refine cIf (fun h => ?_) fun h => ?_
    · simpa [chkE, show ¬ L.length ≤ 8 by omega] using k
    · simpa [chkE, k2, chkL, show L.length ≤ 8 by omega] using k
  · simp only [s.d1, s.el, eS, ug0, ugs, dI_n, cond_true]
    have bad : chkL types last (a :: l) = false → Q (.i 1) [] := fun h => by simpa [chkE, k2, h] using k
    refine cIf (fun h => ?_) fun h1 => cIf (fun h => ?_) fun h2 => cIf (fun h => ?_) fun h3 => cIf (fun h => ?_) fun h4 => s.step ?_
    iterate 4 exact bad (by simp only [chkL, Bool.and_eq_false_iff, decide_eq_false_iff_not]; omega)
    rw [k2, chkL, decide_eq_true (by omega), Bool.true_and]
end Go.Proofs.YtedpdommppfmdaaGreat

/- Stacks: the document's Norm, Same, Count, Check, by the symbolic engine. -/
set_option linter.unusedVariables false
namespace Go.Proofs.YtedpdommppfmdaaGreat
open Go Go.Proofs
variable {Q : V → Mem → Prop}
theorem apOk_l {a b : List (List U)} (h : a.length + b.length ≤ 1000000) : apOk a b := h
theorem refNorm_S {L : List Stk} (hr : rng L) (hL : L.length ≤ 100000) (k : ∀ r e, NormP L e r → Q (.t [.l 2 (r.map eS), .i e]) []) : PRun Tryz.prog 145 [] [.l 2 (L.map eS)] Q := by
  refine S145 ⟨AtI L fun t _ => good t, SufM L, .zero (by omega) (by intro s hs; cases hs), ?_⟩
  rintro x ⟨t, _ | ⟨a, l⟩, s, hg⟩
  case cons =>
    simp only [s.d1, s.el, eS, ug0, ugs, dI_n, cond_true]
    have bad : ¬ good L → Q (.t [.l 2 [], .i 1]) [] := fun h => k [] 1 ⟨(errN_bad h).symm, by simp, fun _ => rfl⟩
    have ha : a ∈ L := by rw [s.e]; simp
    refine cIf (fun h => bad fun hgl => ?_) fun h1 => cIf (fun h => bad fun hgl => ?_) fun h2 => s.step ?_
    iterate 2 have := hgl a ha; omega
    exact good_append.2 ⟨hg, fun u hu => by simp at hu; subst hu; omega⟩
  have hg : good L := by rwa [s.all] at hg
  rw [s.d0]
  refine ⟨fun q x => ∃ r, q = r.map eS ∧ RefN L r x, fun _ x => (L.filter (fun s => decide (x < s.1))).length, ⟨[], rfl, .start hg⟩, ?_⟩
  rintro _ x ⟨r, rfl, inv⟩
  have hlen := inv.len
  have hpos := inv.pos
  refine ⟨fun y z => AtI L (fun t _ => LeastT t x y) z, fun _ => SufM L, .zero (by omega) (.start x), ?_⟩
  rintro y z ⟨t, _ | ⟨a, l⟩, s, hy⟩
  case cons =>
    simp only [s.d1, s.el, eS, ug0, ugs, dI_n, cond_true]
    refine cIf (fun hb => cEq (fun h0 => s.step ?_) fun h0 => cIf (fun hb2 => s.step (hy.less h0 hb hb2)) fun hb2 => s.step (hy.more h0 (by omega))) fun hb => s.step (hy.low (by omega))
    subst h0; exact hy.first hpos hb
  rw [s.all] at hy
  rw [s.d0]
  refine cEq (fun h0 => ?_) (fun h0 => ?_)
  · subst h0
    obtain ⟨h1, h2⟩ := inv.stop hy
    exact k r 0 ⟨(errN_ok hg h2).symm, fun _ => h1, fun h => absurd rfl h⟩
  have hM : MaxQ = 1125899906842624 := rfl
  refine ⟨fun q z => AtI L (fun t _ => q = tot t y ∧ q ≤ MaxQ) z, fun _ => SufM L, .zero (by omega) ⟨rfl, by decide⟩, ?_⟩
  rintro _ z ⟨t, _ | ⟨a, l⟩, s, rfl, ht⟩
  case cons =>
    have hgt : good t := fun u hu => hg u (by rw [s.e]; simp [hu])
    have ht0 := tot_nonneg hgt y
    have ha : a ∈ L := by rw [s.e]; simp
    have hga := hg a ha
    have hra := hr a ha
    simp only [s.d1, s.el, eS, ug0, ugs, dI_n, cond_true]
    have hsn : tot (t ++ [a]) y = tot t y + if a.1 = y then a.2 else 0 := tot_snoc ..
    rw [w64 (x := 1125899906842624 - tot t y) (by omega) (by omega)]
    refine cEq (fun he => ?_) (fun he => ?_)
    · rw [if_pos he] at hsn
      refine cIf (fun ho => ?_) (fun ho => ?_)
      · refine k [] 5 ⟨(errN_over hg ⟨a, ha, ?_⟩).symm, by simp, fun _ => rfl⟩
        rw [he, s.e, show t ++ a :: l = (t ++ [a]) ++ l by simp, tot_append, hsn]
        have := tot_nonneg (l := l) (fun u hu => hg u (by rw [s.e]; simp [hu])) y
        omega
      · rw [w64 (x := tot t y + a.2) (by omega) (by omega)]
        exact s.step ⟨hsn.symm, by omega⟩
    · rw [if_neg he, Int.add_zero] at hsn
      exact s.step ⟨hsn.symm, ht⟩
  rw [s.all] at ht ⊢
  rw [s.d0]
  have hstep := inv.step hg h0 hy ht
  have hdec : (L.filter (fun s => decide (y < s.1))).length < (L.filter (fun s => decide (x < s.1))).length := by
    rcases hy with ⟨h, -⟩ | ⟨ha, hb, -⟩
    · exact absurd h h0
    · exact filter_lt ha hb
  refine cIf (fun hp => ?_) (fun hp => ?_)
  · rw [if_pos hp] at hstep
    exact ⟨apOk_l (by simp; omega), ⟨_, by rw [List.map_append]; rfl, hstep⟩, hdec⟩
  · rw [if_neg hp] at hstep
    exact ⟨⟨r, rfl, hstep⟩, hdec⟩
end Go.Proofs.YtedpdommppfmdaaGreat

/- How many there are of a type: goods.Count, from the old reading to the symbolic engine's. -/
set_option linter.unusedVariables false
namespace Go.Proofs.YtedpdommppfmdaaGreat
open Go Go.Proofs
attribute [local irreducible] appK copyK delK updK lookK makeK rangeK nextM entryM mapEntryK entryStK lenMapK
def CountR (h : Heap) (l : List Stk) (k : Int) (v : Value) (h' : Heap) : Prop := ∃ x : Int, v = .int .i64 x ∧ Keep h h' ∧ x = if errN l = 0 then tot l k else 0
theorem count_spec {h : Heap} {a : Option Addr} {n c : Nat} {l : List Stk} (s : Sl h a n c l) (hr : rng l) (hn : n ≤ 1000) (k : Int) : Run Tryz.prog 218 [.slice a n c, .int .i64 k] h (CountR h l k) := by
  refine V218 _ _ _ _ _ _ ?_
  unfold VC218
  refine (counts_spec s hr hn).mono ?_
  rintro v h1 ⟨r, m, e, rfl, hm, k1, -, he, h0, h1'⟩
  refine ⟨_, _, rfl, ?_⟩
  refine cNe (fun hz => ⟨0, rfl, k1, by rw [if_neg (he ▸ hz)]⟩) fun hz => ?_
  obtain ⟨hcm, -⟩ := h0 hz
  refine lookM hm fun _ => ⟨_, rfl, _, rfl, k1, ?_⟩
  rw [if_pos (he ▸ hz), hcm.tots]
noncomputable def cntN (l : List Stk) (k : Int) : Int := if errN l = 0 then tot l k else 0
theorem PRun.keep {P : Program} {g : FuncId} {args : List V} {Q : V → Mem → Prop}
    (hh : ∀ (D : Fz) (C : List Chunk) (h : Heap) (vs : List Value), St D C h → RpL D [] vs args → Run P g vs h fun v h' => Keep h h' ∧ ∃ x, Rp D [] v x ∧ Q x []) : PRun P g [] args Q := by
  intro D ρ chs C h vs M F
  have h1 : ρ = [] := List.eq_nil_of_length_eq_zero M.len
  have h2 : chs = [] := List.eq_nil_of_length_eq_zero M.lch
  subst h1; subst h2
  refine (hh D C h vs (by simpa using M.st) F).mono ?_
  rintro v h' ⟨k, x, hx, hQ⟩
  exact ⟨D, [], [], x, [], .refl _, ⟨rfl, rfl, fun i L ab ch h => (by simp at h), by simpa using (show St D C h by simpa using M.st).keep k⟩, hx, hQ⟩
theorem RpL.two {D : Fz} {ρ : List Loc} {vs : List Value} {x y : V} (h : RpL D ρ vs [x, y]) : ∃ v w, vs = [v, w] ∧ Rp D ρ v x ∧ Rp D ρ w y := by
  cases h with | cons a b => cases b with | cons b c => cases c; exact ⟨_, _, rfl, a, b⟩
theorem Rp.u_inv {D : Fz} {ρ : List Loc} {v : Value} {x : U} (h : Rp D ρ v (.u x)) : Rd D v x := by cases h; assumption
theorem Rd.sl {D : Fz} {C : List Chunk} {h : Heap} {v : Value} {L : List Stk} (hx : Rd D v (.l 2 (L.map eS))) (S : St D C h) : ∃ a c, v = .slice a L.length c ∧ Sl h a L.length c L := by
  obtain ⟨a, c, rfl, hle, -⟩ := hx.shape
  have hs := (hx.src S).2
  rw [List.length_map] at hle ⊢
  refine ⟨a, c, rfl, rfl, hle, fun i x hi => ?_⟩
  have hr : (L.map eS)[i]? = some (eS x) := by simp [hi]
  rcases hs with h0 | ⟨b, o, w, rfl, hc⟩
  · rw [h0] at hr; simp at hr
  refine ⟨b, o, rfl, fun j v hv => ?_⟩
  match j, hv with
  | 0, hv => simp [encS] at hv; subst hv; obtain ⟨h1, h2⟩ := hc i 0 _ _ hr rfl; rw [Rd.int_iff.1 h2] at h1; exact h1
  | 1, hv => simp [encS] at hv; subst hv; obtain ⟨h1, h2⟩ := hc i 1 _ _ hr rfl; rw [Rd.int_iff.1 h2] at h1; exact h1
theorem pCount_S {Q : V → Mem → Prop} {L : List Stk} {x : Int} (hr : rng L) (hL : L.length ≤ 1000) (k : Q (.i (cntN L x)) []) : PRun Tryz.prog 218 [] [.l 2 (L.map eS), .i x] Q := by
  refine .keep fun D C h vs S F => ?_
  obtain ⟨v, w, rfl, h1, h2⟩ := F.two
  obtain ⟨a, c, rfl, s⟩ := h1.u_inv.sl S
  rw [Rd.int_iff.1 h2.u_inv]
  refine (count_spec s hr hL x).mono ?_
  rintro v h' ⟨y, rfl, hk, rfl⟩
  exact ⟨hk, _, .u (.int .i64 _), k⟩
end Go.Proofs.YtedpdommppfmdaaGreat

/- Stacks: the document's Same, Count, Check. Blueprints: may one be; what runs need. -/
set_option linter.unusedVariables false
namespace Go.Proofs.YtedpdommppfmdaaGreat
open Go Go.Proofs
variable {Q : V → Mem → Prop}
theorem same_S {A B : List Stk} (hA : A.length ≤ 1000000) (hB : B.length ≤ 1000000) (k : Q (.u (.b (decide (A = B)))) []) : PRun Tryz.prog 146 [] [.l 2 (A.map eS), .l 2 (B.map eS)] Q := by
  refine S146 (cNe (fun h => ?_) fun h => ⟨fun x => ∃ t la lb, At A x t la ∧ At B x t lb, SufM A, ⟨[], A, B, .zero (by omega), .zero (by omega)⟩, ?_⟩)
  · have : A ≠ B := by rintro rfl; exact h rfl
    rwa [decide_eq_false this] at k
  simp only [List.length_map] at h
  rintro x ⟨t, _ | ⟨a, la⟩, lb, s1, s2⟩
  · have h1 := congrArg List.length s1.e
    have h2 := congrArg List.length s2.e
    simp at h1 h2
    have : lb = [] := List.eq_nil_of_length_eq_zero (by omega)
    subst this
    rw [s1.d0, decide_eq_true (s1.all.symm.trans s2.all)] at *
    exact k
  · have h1 := congrArg List.length s1.e
    have h2 := congrArg List.length s2.e
    simp at h1 h2
    rcases lb with _ | ⟨b, lb⟩
    · simp at h2; omega
    simp only [s1.d1, s2.d1, s1.el, s2.el, eS, ug0, ugs, dI_n, cond_true, Bool.and_true]
    obtain ⟨a1, a2⟩ := a
    obtain ⟨b1, b2⟩ := b
    refine cNot (cB (fun he => ?_) fun he => ?_)
    · simp at he
      obtain ⟨rfl, rfl⟩ := he
      rw [s1.suf.wr]
      exact ⟨⟨_, _, _, s1.succ, s2.succ⟩, s1.suf.me⟩
    · have : A ≠ B := by
        rw [s1.e, s2.e]
        intro e
        simp at e
        simp [e] at he
      rwa [decide_eq_false this] at k
theorem SN.len {l r : List Stk} (h : SN l r) : r.length ≤ l.length := by
  have hnd : (r.map (·.1)).Nodup := List.pairwise_map.2 (h.1.imp fun hh => by omega)
  have : ∀ x ∈ r.map (·.1), x ∈ l.map (·.1) := fun x hx => by
    obtain ⟨p, hp, rfl⟩ := List.mem_map.1 hx
    obtain ⟨s, hs, e⟩ := tot_pos (l := l) (k := p.1) (by have := (h.2 p.1 p.2).1 hp; omega)
    exact List.mem_map.2 ⟨s, hs, e⟩
  have := hnd.length_le_of_subset this
  simpa using this
theorem NormP.len {l r : List Stk} {e : Int} (h : NormP l e r) : r.length ≤ l.length := by
  by_cases h0 : e = 0
  · exact (h.2.1 h0).len
  · rw [h.2.2 h0]; simp
theorem rCount_S {L : List Stk} {x : Int} (hr : rng L) (hL : L.length ≤ 1000) (k : Q (.i (cntN L x)) []) : PRun Tryz.prog 76 [] [.l 2 (L.map eS), .i x] Q := by
  refine S76 (refNorm_S hr (by omega) fun r e hN => ?_)
  rw [post_LI]
  have hlen := hN.len
  have hc : (∀ u ∈ r, u.1 ≠ x) → cntN L x = 0 := fun h => by
    unfold cntN
    split
    · rename_i he
      have hsn := hN.2.1 (hN.1.trans he)
      refine Decidable.byContradiction fun hne => ?_
      have hg := tot_nonneg (errN_zero.1 he).1 x
      exact h _ ((hsn.2 x (tot L x)).2 ⟨rfl, by omega⟩) rfl
    · rfl
  refine ⟨AtI r fun t _ => ∀ u ∈ t, u.1 ≠ x, SufM r, .zero (by omega) (by simp), ?_⟩
  rintro z ⟨t, _ | ⟨a, l⟩, s, ht⟩
  · rw [s.all] at ht
    rw [s.d0]
    rwa [hc ht] at k
  · simp only [s.d1, s.el, eS, ug0, ugs, dI_n, cond_true]
    refine cEq (fun h => ?_) fun h => s.step ?_
    · have he : e = 0 := Decidable.byContradiction fun he => by rw [hN.2.2 he] at s; have := s.e; simp at this
      have hsn := hN.2.1 he
      have := ((hsn.2 a.1 a.2).1 (by rw [s.e]; simp)).1
      rw [show cntN L x = a.2 by unfold cntN; rw [if_pos (hN.1 ▸ he), this, h]] at k
      exact k
    · intro u hu
      rcases List.mem_append.1 hu with hu | hu
      · exact ht u hu
      · simp at hu; subst hu; exact h
structure CheckOK (l : List Stk) (types : Int) : Prop where
  len : l.length ≤ 8
  rise : l.Pairwise (fun a b => a.1 < b.1)
  el : ∀ s ∈ l, 1 ≤ s.1 ∧ s.1 ≤ types ∧ 1 ≤ s.2 ∧ s.2 ≤ MaxQ
theorem chkL_iff {types : Int} : ∀ {l : List Stk} {last : Int}, chkL types last l = true ↔ l.Pairwise (fun a b => a.1 < b.1) ∧ ∀ s ∈ l, last < s.1 ∧ s.1 ≤ types ∧ 1 ≤ s.2 ∧ s.2 ≤ MaxQ
  | [], last => by simp [chkL]
  | a :: l, last => by
    simp only [chkL, Bool.and_eq_true, decide_eq_true_eq, chkL_iff (l := l), List.pairwise_cons, List.mem_cons]
    have hM : MaxQ = 1125899906842624 := rfl
    constructor
    · rintro ⟨h1, h2, h3⟩
      refine ⟨⟨fun b hb => (h3 b hb).1, h2⟩, ?_⟩
      rintro s (rfl | hs)
      · omega
      · have := h3 s hs; omega
    · rintro ⟨⟨h1, h2⟩, h3⟩
      refine ⟨by have := h3 a (.inl rfl); omega, h2, fun s hs => ?_⟩
      have := h3 s (.inr hs)
      have := h1 s hs
      omega
theorem chkE_iff {l : List Stk} {types : Int} : chkE l types = 0 ↔ CheckOK l types := by
  unfold chkE
  constructor
  · intro h
    split at h
    · rename_i hh
      have := chkL_iff.1 hh.1
      exact ⟨hh.2, this.1, fun s hs => by have := this.2 s hs; omega⟩
    · cases h
  · intro h
    rw [if_pos]
    exact ⟨chkL_iff.2 ⟨h.rise, fun s hs => by have := h.el s hs; omega⟩, h.len⟩
theorem chkE_01 (l : List Stk) (types : Int) : chkE l types = 0 ∨ chkE l types = 1 := by unfold chkE; split <;> simp
theorem chkE_one {l : List Stk} {types : Int} (h : ¬ CheckOK l types) : chkE l types = 1 := (chkE_01 l types).resolve_left fun h0 => h (chkE_iff.1 h0)
theorem rise_keys {r : List Stk} (h : r.Pairwise (fun a b => a.1 < b.1)) : (r.map (·.1)).Nodup := List.pairwise_map.2 (h.imp fun hh => by omega)
theorem CheckOK.sn {l : List Stk} {types : Int} (h : CheckOK l types) : errN l = 0 ∧ SN l l := by
  have hnd := rise_keys h.rise
  have hg : good l := fun s hs => by have := h.el s hs; omega
  refine ⟨errN_ok hg ?_, h.rise, fun k n => ?_⟩
  · rintro ⟨s, hs, ho⟩
    rw [tot_mem hnd hs] at ho
    have := (h.el s hs).2.2.2; omega
  · constructor
    · intro hm
      have := (h.el _ hm).2.2.1
      exact ⟨(tot_mem hnd hm).symm, by show 0 < n; simp only at this; omega⟩
    · rintro ⟨h1, h2⟩
      obtain ⟨p, hp, he⟩ := tot_pos (l := l) (k := k) (by omega)
      have := tot_mem hnd hp
      rw [he] at this
      have hpe : p = (k, n) := by obtain ⟨p1, p2⟩ := p; simp only at he this; subst he; rw [h1, this]
      subst hpe; exact hp
theorem rCheck_S {L : List Stk} {types : Int} (hr : rng L) (hL : L.length ≤ 1000) (k : Q (.i (chkE L types)) []) : PRun Tryz.prog 75 [] [.l 2 (L.map eS), .i types] Q := by
  have bad : ¬ CheckOK L types → Q (.i 1) [] := fun h => by rwa [chkE_one h] at k
  refine S75 (cIf (fun h1 => bad fun h => ?_) fun h1 => refNorm_S hr (by omega) fun r e hN => ?_)
  · have := h.len; simp at h1; omega
  rw [post_LI]
  simp only [List.length_map] at h1 ⊢
  have hlen := hN.len
  refine cNe (fun hz => bad fun h => hz (hN.1.trans h.sn.1)) fun hz => same_S (by omega) (by omega) ?_
  rw [post_B]
  have hsn := hN.2.1 hz
  refine cNot (cIf (fun he => ?_) fun he => bad fun h => he (hsn.unique h.sn.2))
  subst he
  have hg := errN_zero.1 (hN.1 ▸ hz)
  have hel : ∀ u ∈ r, 1 ≤ u.1 ∧ 1 ≤ u.2 ∧ u.2 ≤ MaxQ := fun u hu => by
    have h1 := (hsn.2 u.1 u.2).1 hu
    have h2 := not_over hg.1 hg.2 u.1
    have h3 := (hg.1 u hu).1
    omega
  refine cIf (fun h4 => ?_) fun h4 => ?_
  · have hw : IntKind.wrap .i64 ((r.length : Int) - 1) = r.length - 1 := w64 (by omega) (by omega)
    have hl : r[r.length - 1]? = some r[r.length - 1] := List.getElem?_eq_getElem (by omega)
    rw [hw, elL_of (r := eS r[r.length - 1]) (by omega) (by rw [List.getElem?_map, show ((r.length : Int) - 1).toNat = r.length - 1 by omega, hl]; rfl)]
    simp only [eS, ug0, dI_n]
    refine cIf (fun h5 => bad fun h => ?_) fun h5 => ?_
    · have := (h.el r[r.length - 1] (by simp)).2.1; omega
    · rwa [chkE_iff.2 ⟨by omega, hsn.1, fun u hu => ?_⟩] at k
      have h6 := hel u hu
      refine ⟨h6.1, ?_, h6.2⟩
      obtain ⟨i, hi, rfl⟩ := List.getElem_of_mem hu
      by_cases hin : i = r.length - 1
      · subst hin; omega
      · have := List.pairwise_iff_getElem.1 hsn.1 i (r.length - 1) hi (by omega) (by omega)
        omega
  · have : r = [] := List.eq_nil_of_length_eq_zero (by omega)
    subst this
    rwa [chkE_iff.2 ⟨by simp, .nil, by simp⟩] at k
end Go.Proofs.YtedpdommppfmdaaGreat

/- What the functions do, written by program (psv.py) and held against the program by the kernel. -/
set_option linter.unusedVariables false
set_option maxRecDepth 100000
namespace Go.Proofs.YtedpdommppfmdaaGreat
open Go Go.Proofs
end Go.Proofs.YtedpdommppfmdaaGreat

/- Library: math/bits: Len64, LeadingZeros64, Div64, by the symbolic engine. -/
set_option linter.unusedVariables false
namespace Go.Proofs.YtedpdommppfmdaaGreat
open Go Go.Proofs
end Go.Proofs.YtedpdommppfmdaaGreat

/- Lists of numbers that are owned: the least one; the first one with something; in the style of heaps. -/
set_option linter.unusedVariables false
namespace Go.Proofs.YtedpdommppfmdaaGreat
open Go Go.Proofs
attribute [local irreducible] appK copyK delK updK lookK makeK rangeK nextM entryM mapEntryK entryStK lenMapK
variable {P : Program} {D D' : Fz} {C : List Chunk} {h h' : Heap}
section
variable {α : Type} {e : α → List U} {T E sz : Nat}
theorem rows_len (he : ∀ x, (e x).length = sz) (l : List α) : ∀ r ∈ l.map e, r.length = sz := by
  intro r hr; obtain ⟨t, -, rfl⟩ := List.mem_map.1 hr; exact he t
theorem app_e {a a2 : Option Addr} {c m n cx : Nat} {r r2 : List α} {ch : Chunk} {K : Value → Heap → Prop} (ty : ElTy P T E sz) (own : Own D E sz a c (r.map e) ch) (S : St D (ch :: C) h) (src : Src D h sz a2 (r2.map e)) (hn : n = r.length) (hm : m = r2.length) (hb : r.length + r2.length ≤ 1000000)
    (hK : ∀ a' c' ch' h', Own D E sz a' c' ((r ++ r2).map e) ch' → St D (ch' :: C) h' → K (.slice a' (r ++ r2).length c') h') : appK P #[T, T] T (.slice a n c) (.slice a2 m cx) h K := by
  obtain ⟨hT, i, z, hi, hsz, hby, hby2, hz, hzs⟩ := ty
  subst hm hn
  by_cases hr2 : r2 = []
  · subst hr2
    refine app_nil (E := E) hT hi (by simpa using own.len) ?_
    simpa using hK a c ch h (by simpa using own) S
  subst hsz
  have hl : r.length = (r.map e).length := by simp
  rw [hl]
  have hbd : (2 * ((r.map e).length + (r2.map e).length) + 512) * i.bytes ≤ 281474976710656 := by
    simp only [List.length_map]
    have := Nat.mul_le_mul (show 2 * (r.length + r2.length) + 512 ≤ 2000512 by omega) hby2
    omega
  refine Own.app own S hT hi hz hzs hby src (by simp) hbd (by simpa using hr2) fun a' c' ch' h' own' S' => ?_
  rw [← List.map_append] at own'
  rw [← List.map_append, List.length_map]
  exact hK a' c' ch' h' own' S'
end
def fstI {α : Type} (p : α → Bool) : List α → Nat → Int
  | [], _ => -1
  | x :: l, k => if p x = true then k else fstI p l (k + 1)
theorem callV_1 {P : Program} {g : FuncId} {args : List Value} {c : Value} {h : Heap} {R : Value → Heap → Prop} (hr : Run P g (args ++ [c]) h R) : CallV P (.func (.func g) #[] #[c]) args h R := by
  unfold CallV
  simpa using hr
theorem callV_mono {P : Program} {f : Value} {args : List Value} {h : Heap} {R R' : Value → Heap → Prop} (hh : CallV P f args h R) (k : ∀ v h', R v h' → R' v h') : CallV P f args h R' := by
  unfold CallV at hh ⊢
  split at hh
  · exact hh.mono k
  · exact hh.elim
def eI (x : Int) : List U := [.n x]
theorem eI1 (x : Int) : (eI x).length = 1 := rfl
theorem rd_I {vs : List Value} {x : Int} : RdL D vs (eI x) ↔ vs = [.int .i64 x] := by
  simp only [eI, RdL.cons_iff, RdL.nil_iff, Rd.int_iff]
  constructor
  · rintro ⟨_, _, rfl, rfl, rfl⟩; rfl
  · rintro rfl; exact ⟨_, _, rfl, rfl, rfl⟩
theorem own_I {T : TypeId} {a : Option Addr} {c : Nat} {L : List Int} {ch : Chunk} (hx : Own D T 1 a c (L.map eI) ch) (S : St D (ch :: C) h) {z : Int} {i : Nat} (hz : z = i) {t : Int} (hi : L[i]? = some t) {K : Nat → Nat → Prop}
    (hK : ∀ b o, hcell h ⟨b, o + z.toNat * 1, none⟩ = some (.int .i64 t) → K b o) : onPtr a K :=
  hx.at S hz (r := eI t) (by simp [hi]) fun b o vs hv hc => by
    rw [rd_I] at hv; subst hv
    exact hK b o (hc 0 (by omega))
theorem eyI : ElTy Tryz.prog 102 3 1 := .of (by kernel_rfl)
def minI : Int → List Int → Int
  | m, [] => m
  | m, x :: l => minI (if x < m then x else m) l
theorem minI_mem : ∀ (l : List Int) (m : Int), minI m l = m ∨ minI m l ∈ l
  | [], m => .inl rfl
  | x :: l, m => by
    simp only [minI, List.mem_cons]
    rcases minI_mem l (if x < m then x else m) with h | h
    · rw [h]; split <;> simp
    · exact .inr (.inr h)
theorem minI_le : ∀ (l : List Int) (m : Int), minI m l ≤ m ∧ ∀ y ∈ l, minI m l ≤ y
  | [], m => ⟨Int.le_refl _, by simp⟩
  | x :: l, m => by
    have := minI_le l (if x < m then x else m)
    simp only [minI, List.mem_cons, forall_eq_or_imp]
    refine ⟨?_, ?_, this.2⟩
    · have h := this.1; split at h <;> omega
    · have h := this.1; split at h <;> omega
theorem min_spec {T : TypeId} {a : Option Addr} {c : Nat} {x : Int} {l : List Int} {ch : Chunk} (own : Own D T 1 a c ((x :: l).map eI) ch) (S : St D (ch :: C) h) (hn : l.length ≤ 1000) :
    Run Tryz.prog 236 [.slice a (l.length + 1) c] h fun v h' => v = .int .i64 (minI x l) ∧ h' = h := by
  refine V236 _ _ _ _ _ ?_
  unfold VC236
  refine cIf (fun h => by omega) fun _ => ?_
  refine own_I own S (z := 0) (i := 0) rfl rfl fun b o c0 => ⟨by decide, by omega, _, c0, ?_⟩
  refine ⟨fun m z h' => ∃ i : Nat, z = i ∧ 1 ≤ i ∧ i ≤ l.length + 1 ∧ minI x l = minI m (l.drop (i - 1)) ∧ h' = h, fun _ z _ => l.length + 1 - z.toNat, ⟨1, rfl, by omega, by omega, rfl, rfl⟩, ?_⟩
  rintro - h1 m z ⟨i, rfl, h1i, hi, he, eh⟩
  obtain rfl : h = h1 := eh.symm
  refine cIf (fun hlt => ?_) fun hge => ?_
  · obtain ⟨j, rfl⟩ : ∃ j, i = j + 1 := ⟨i - 1, by omega⟩
    have hjl : j < l.length := by omega
    rw [Nat.add_sub_cancel, List.drop_eq_getElem_cons hjl] at he
    refine own_I own S rfl (t := l[j]) (by rw [List.getElem?_cons_succ]; exact List.getElem?_eq_getElem hjl) fun b o c0 => ⟨by omega, by omega, _, c0, ?_⟩
    rw [w64n (by omega)]
    exact ⟨⟨j + 2, rfl, by omega, by omega, he, rfl⟩, by simp only [Int.toNat_natCast]; omega⟩
  · have : i = l.length + 1 := by omega
    subst this
    exact ⟨by rw [he]; simp [minI], rfl⟩
end Go.Proofs.YtedpdommppfmdaaGreat

/- Numbers without those that a predicate takes (slices.DeleteFunc). -/
set_option linter.unusedVariables false
namespace Go.Proofs.YtedpdommppfmdaaGreat
open Go Go.Proofs
attribute [local irreducible] appK copyK delK updK lookK makeK rangeK nextM entryM mapEntryK entryStK lenMapK
variable {P : Program} {D D' : Fz} {C : List Chunk} {h h' : Heap}
theorem indexI_spec {T : TypeId} {a : Option Addr} {c : Nat} {l : List Int} {ch : Chunk} (own : Own D T 1 a c (l.map eI) ch) (S : St D (ch :: C) h) (hn : l.length ≤ 1000) (p : Int → Bool) (f : Value)
    (hf : ∀ x ∈ l, ∀ h, St D (ch :: C) h → CallV Tryz.prog f [.int .i64 x] h fun v h' => v = .bool (p x) ∧ St D (ch :: C) h') :
    Run Tryz.prog 210 [.slice a l.length c, f] h fun v h' => v = .int .i64 (fstI p l 0) ∧ St D (ch :: C) h' := by
  refine V210 _ _ _ _ _ _ ?_
  unfold VC210
  refine ⟨fun z h' => ∃ i : Nat, z = i ∧ i ≤ l.length ∧ fstI p l 0 = fstI p (l.drop i) i ∧ St D (ch :: C) h', fun z _ => l.length - z.toNat, ⟨0, rfl, by omega, rfl, S⟩, ?_⟩
  rintro - h1 z ⟨i, rfl, hi, he, S⟩
  refine cIf (fun hlt => ?_) fun hge => ?_
  · have hil : i < l.length := by omega
    rw [List.drop_eq_getElem_cons hil] at he
    refine own_I own S rfl (List.getElem?_eq_getElem hil) fun b o c0 => ⟨by omega, by omega, _, c0, ?_⟩
    refine callV_mono (hf _ (List.getElem_mem hil) h1 S) ?_
    rintro v h2 ⟨rfl, S⟩
    refine ⟨_, rfl, cB (fun hp => ?_) fun hp => ?_⟩
    · exact ⟨by rw [he]; simp [fstI, hp], S⟩
    · rw [w64n (by omega)]
      exact ⟨⟨i + 1, rfl, by omega, by rw [he]; simp [fstI, hp], S⟩, by simp only [Int.toNat_natCast]; omega⟩
  · have : i = l.length := by omega
    subst this
    exact ⟨by rw [he]; simp [fstI], S⟩
theorem clearI {P : Program} {T E : TypeId} {i : TypeInfo} {z : Value} {b o n c : Nat} {l : List Value} {e : TypeId} {h : Heap} {K : Value → Heap → Prop} (hu : P.underlying T = some (.slice E)) (hi : P.info? E = some i) (hz : i.zero = some z) (hzs : z.cells = #[z]) (hs : single z = true)
    (hb : h[b]? = some (.cells l.toArray e (0, 0))) (hl : o + n ≤ l.length)
    (hK : ∀ h', h'[b]? = some (.cells (splice l o (List.replicate n z)).toArray e (0, 0)) → KB [b] h h' → h'.size = h.size → K (.tuple #[]) h') : clearK P #[T] 0 (.slice (some ⟨b, o, none⟩) n c) h K := by
  unfold clearK
  show SWp P (underlying T >>= _) h K
  refine SWp_bind (SWp_underlying hu ?_)
  cases n with
  | zero =>
    show SWp P (pure (Value.tuple #[])) h K
    exact hK h (by simpa [splice] using hb) (.refl _ _) rfl
  | succ n =>
    refine SWp_bind (SWp_zero hi hz ?_)
    have hzc : (Builtin.zeroCells z.cells (n + 1)).toList = List.replicate (n + 1) z := by
      rw [hzs]
      simp [Builtin.zeroCells]
      apply List.ext_getElem
      · simp
      · intro i h1 h2
        simp [Nat.mod_one]
    rw [hzc]
    refine SWp_bind (SWp_storeCells_blk hb (by simpa using hl) (fun v hv => by rw [List.eq_of_mem_replicate hv]; exact hs) fun h' h1 k s => ?_)
    exact hK h' h1 k s
theorem put_I {T : TypeId} {a : Option Addr} {c i : Nat} {L : List Int} {ch : Chunk} (own : Own D T 1 a c (L.map eI) ch) (S : St D (ch :: C) h) {z : Int} (hz : z = i) (hi : i < L.length) (x : Int) {K : Nat → Nat → Prop}
    (hK : ∀ b o, (∀ K' : Heap → Prop, (∀ ch' h', Own D T 1 a c ((L.set i x).map eI) ch' → St D (ch' :: C) h' → K' h') → stK h ⟨b, o + z.toNat * 1, none⟩ (.int .i64 x) K') → K b o) : onPtr a K := by
  refine own.put S hz (by simpa using hi) (r' := eI x) (vs := [.int .i64 x]) (rd_I.2 rfl) rfl fun b o f => hK b o fun K' k => ?_
  have := f K' fun ch' h' o' S' => k ch' h' (by rw [List.map_set]; exact o') S'
  simp only [storeS, addO_eq, Nat.add_zero] at this
  exact this
attribute [local irreducible] clearK
theorem clear_I {a : Option Addr} {c i : Nat} {L : List Int} {ch : Chunk} (own : Own D 3 1 a c (L.map eI) ch) (S : St D (ch :: C) h) (hi : i ≤ L.length) (h0 : L ≠ []) {K : Value → Heap → Prop}
    (hK : ∀ ch' h', Own D 3 1 a c ((L.take i).map eI) ch' → St D (ch' :: C) h' → K (.tuple #[]) h') : clearK Tryz.prog #[102] 0 (.slice (slA a c i 1) (subN L.length i) (subN c i)) h K := by
  obtain ⟨hT, y, z, hy, hsz, hby, hby2, hz, hzs⟩ := eyI
  have hz0 : z = .int .i64 0 := by
    have : (Tryz.prog.info? 3).map (·.zero) = some (some (.int .i64 0)) := by kernel_rfl
    rw [hy, Option.map_some, hz] at this
    simpa using this
  subst hz0
  generalize hr : L.map eI = rows at own
  cases own with
  | nil => simp at hr; exact absurd hr h0
  | row b c arr rows v h1 h2 h3 h4 h5 =>
    obtain ⟨l⟩ := arr
    subst hr
    have h1' : l.length = c := by simpa using h1
    rw [List.length_map] at h2
    obtain ⟨o, ho, hoi⟩ : ∃ o, slA (some ⟨b, 0, none⟩) c i 1 = some ⟨b, o, none⟩ ∧ o + (L.length - i) ≤ c ∧ (o = i ∨ L.length - i = 0) := by
      unfold slA
      cases i with
      | zero => exact ⟨0, rfl, by omega, .inl rfl⟩
      | succ i =>
        simp only [Nat.beq, cond_false]
        by_cases hc : c = i + 1
        · rw [if_pos hc]; exact ⟨0, rfl, by omega, .inr (by omega)⟩
        · rw [if_neg hc]; exact ⟨i + 1, by simp, by omega, .inl rfl⟩
    rw [ho, subN_eq, subN_eq]
    refine clearI hT hy hz rfl rfl (S.get (List.mem_singleton_self _)) (by omega) fun h' hb k s => ?_
    have S' : St D ([(b, .cells ⟨splice l o (List.replicate (L.length - i) (.int .i64 0))⟩ 3 (0, 0))] :: C) h' := S.upd (by simpa using k) (by simpa using hb) (by simp) (by simp)
    refine hK _ h' (.row b c _ _ v (by simp [splice_length, h1']) (by rw [List.length_map, List.length_take]; omega) (rows_len eI1 _) (fun p q r u hp hq => ?_) fun p q r u hp hq => ?_) S'
    all_goals
      have hpi : p < i := by have := (List.getElem?_eq_some_iff.1 hp).1; rw [List.length_map, List.length_take] at this; omega
      have hp' : (L.map eI)[p]? = some r := by
        rw [List.getElem?_map, List.getElem?_take_of_lt hpi, ← List.getElem?_map] at hp; exact hp
    · have hq1 : q < 1 := by have := (List.getElem?_eq_some_iff.1 hq).1; rwa [h3 r (List.mem_of_getElem? hp')] at this
      have := h4 p q r u hp' hq
      simp only [List.getElem?_toArray] at this ⊢
      rw [splice_get _ _ _ _ (by simp; omega)]
      rw [List.length_replicate]
      rcases hoi.2 with e | e
      · rw [if_pos (by omega)]; exact this
      · by_cases hpo : p * 1 + q < o
        · rw [if_pos hpo]; exact this
        · rw [if_neg hpo, if_neg (by omega)]; exact this
    · exact h5 p q r u hp' hq
theorem fstI_cases {α : Type} (p : α → Bool) : ∀ (l : List α) (k : Nat), (fstI p l k = -1 ∧ ∀ x ∈ l, p x = false) ∨ ∃ d : Nat, fstI p l k = ((k + d : Nat) : Int) ∧ d < l.length ∧ (∀ x, l[d]? = some x → p x = true) ∧ ∀ x ∈ l.take d, p x = false
  | [], k => .inl ⟨rfl, by simp⟩
  | x :: l, k => by
    simp only [fstI]
    by_cases hp : p x = true
    · rw [if_pos hp]; exact .inr ⟨0, by simp, by simp, by simp [hp], by simp⟩
    · rw [if_neg hp]
      have hp' : p x = false := by simpa using hp
      rcases fstI_cases p l (k + 1) with ⟨h1, h2⟩ | ⟨d, h1, h2, h3, h4⟩
      · exact .inl ⟨h1, by simpa [hp'] using h2⟩
      · exact .inr ⟨d + 1, by rw [h1]; congr 1; omega, by simpa using h2, by simpa using h3, by simpa [hp'] using h4⟩
def keepI (p : Int → Bool) (l : List Int) : List Int := l.filter fun x => !p x
theorem keepI_all {p : Int → Bool} {l : List Int} (h : ∀ x ∈ l, p x = false) : keepI p l = l := by
  unfold keepI; rw [List.filter_eq_self]; intro x hx; simp [h x hx]
theorem keepI_snoc {p : Int → Bool} {l : List Int} {j : Nat} {x : Int} (h : l[j]? = some x) : keepI p (l.take (j + 1)) = if p x = true then keepI p (l.take j) else keepI p (l.take j) ++ [x] := by
  unfold keepI
  rw [List.take_add_one, h, List.filter_append]
  split <;> simp_all
theorem deleteI_spec {a : Option Addr} {c : Nat} {l : List Int} {ch : Chunk} (own : Own D 3 1 a c (l.map eI) ch) (S : St D (ch :: C) h) (hn : l.length ≤ 1000) (p : Int → Bool) (f : Value)
    (hf : ∀ x ∈ l, ∀ ch h, St D (ch :: C) h → CallV Tryz.prog f [.int .i64 x] h fun v h' => v = .bool (p x) ∧ St D (ch :: C) h') :
    Run Tryz.prog 170 [.slice a l.length c, f] h fun v h' => ∃ ch', v = .slice a (keepI p l).length c ∧ Own D 3 1 a c ((keepI p l).map eI) ch' ∧ St D (ch' :: C) h' := by
  refine V170 _ _ _ _ _ _ ?_
  unfold VC170
  refine (indexI_spec own S hn p f fun x hx h S => hf x hx ch h S).mono ?_
  rintro v h1 ⟨rfl, S⟩
  refine ⟨_, rfl, ?_⟩
  rcases fstI_cases p l 0 with ⟨e, hall⟩ | ⟨d, e, hd, hpd, hall⟩
  · rw [e]
    refine cEq (fun _ => ?_) fun h => absurd rfl h
    have hk := keepI_all hall
    exact ⟨ch, by rw [hk], by rw [hk]; exact own, S⟩
  rw [e, Nat.zero_add]
  refine cEq (fun h => by omega) fun _ => ?_
  rw [w64n (by omega)]
  have hlc : l.length ≤ c := by simpa using own.len
  refine ⟨fun x y h' => ∃ (i j : Nat) (r : List Int) (ch : Chunk), x = i ∧ y = j ∧ i < j ∧ j ≤ l.length ∧ r.length = l.length ∧ r.take i = keepI p (l.take j) ∧ r.drop j = l.drop j ∧ Own D 3 1 a c (r.map eI) ch ∧ St D (ch :: C) h',
    fun _ y _ => l.length - y.toNat, ⟨d, d + 1, l, ch, rfl, rfl, by omega, by omega, rfl, ?_, rfl, own, S⟩, ?_⟩
  · rw [keepI_snoc (List.getElem?_eq_getElem hd), if_pos (hpd _ (List.getElem?_eq_getElem hd)), keepI_all hall]
  rintro - h2 x y ⟨i, j, r, ch, rfl, rfl, hij, hj, hr, htk, hdr, own, S⟩
  refine cIf (fun hlt => ?_) fun hge => ?_
  · have hjl : j < l.length := by omega
    have hgj : r[j]? = some l[j] := by
      have : (r.drop j)[0]? = (l.drop j)[0]? := by rw [hdr]
      rw [← List.getElem?_eq_getElem hjl]
      simpa using this
    refine own_I own S rfl hgj fun b o c0 => ⟨by omega, by omega, _, c0, ?_⟩
    refine callV_mono (hf _ (List.getElem_mem hjl) ch h2 S) ?_
    rintro v h3 ⟨rfl, S⟩
    have hsn := keepI_snoc (p := p) (List.getElem?_eq_getElem hjl)
    have hdr1 : r.drop (j + 1) = l.drop (j + 1) := by
      have := congrArg (List.drop 1) hdr
      simpa [List.drop_drop] using this
    refine ⟨_, rfl, cNot (cB (fun hp => ?_) fun hp => ?_)⟩
    · rw [w64n (by omega)]
      exact ⟨⟨i, j + 1, r, ch, rfl, rfl, by omega, by omega, hr, by rw [hsn, if_pos hp]; exact htk, hdr1, own, S⟩, by simp only [Int.toNat_natCast]; omega⟩
    · refine put_I own S rfl (i := i) (by omega) l[j] fun b o k => ⟨by omega, by omega, k _ fun ch' h' own S => ?_⟩
      rw [w64n (by omega), w64n (by omega)]
      refine ⟨⟨i + 1, j + 1, r.set i l[j], ch', rfl, rfl, by omega, by omega, by simpa using hr, ?_, ?_, own, S⟩, by simp only [Int.toNat_natCast]; omega⟩
      · rw [hsn, if_neg (by simp [hp]), ← htk, List.take_add_one, List.getElem?_set_self (by omega), List.take_set_of_le (by omega)]; rfl
      · rw [List.drop_set_of_lt (by omega)]; exact hdr1
  · have : j = l.length := by omega
    subst this
    refine ⟨by omega, by omega, by omega, ?_⟩
    rw [List.take_length] at htk
    simp only [Int.toNat_natCast]
    rw [← hr]
    refine clear_I own S (by omega) (by intro h0; subst h0; simp at hr; omega) fun ch' h' own S => ?_
    rw [htk] at own
    have hi : i = (keepI p l).length := by rw [← htk, List.length_take]; omega
    exact ⟨by omega, by omega, ch', by rw [← hi], own, S⟩
end Go.Proofs.YtedpdommppfmdaaGreat

/- Slots: a row of chunks, one of which is taken and put back; the cells of a web. -/
set_option linter.unusedVariables false
namespace Go.Proofs.YtedpdommppfmdaaGreat
open Go Go.Proofs
attribute [local irreducible] appK copyK delK updK lookK makeK rangeK nextM entryM mapEntryK entryStK lenMapK
variable {P : Program} {D D' : Fz} {C : List Chunk} {h h' : Heap}
def updF {α : Type} (f : Nat → α) (k : Nat) (x : α) : Nat → α := fun j => if j = k then x else f j
theorem updF_self {α : Type} (f : Nat → α) (k : Nat) (x : α) : updF f k x k = x := by simp [updF]
theorem updF_ne {α : Type} (f : Nat → α) {k j : Nat} (x : α) (h : j ≠ k) : updF f k x j = f j := by simp [updF, h]
theorem updF_id {α : Type} (f : Nat → α) (k : Nat) : updF f k (f k) = f := by funext j; unfold updF; split <;> simp_all
abbrev row (N : Nat) (g : Nat → Chunk) : List Chunk := (List.range N).map g
theorem row_perm (g : Nat → Chunk) (k : Nat) (ch : Chunk) : ∀ N, k < N → (row N (updF g k ch)).flatten.Perm (ch ++ (row N (updF g k [])).flatten)
  | 0, h => by omega
  | N + 1, h => by
    have hs : ∀ x, (row (N + 1) (updF g k x)).flatten = (row N (updF g k x)).flatten ++ updF g k x N := fun x => by simp [row, List.range_succ]
    rw [hs, hs]
    by_cases hk : k = N
    · subst hk
      have he : ∀ x y, row k (updF g k x) = row k (updF g k y) := fun x y => List.map_congr_left fun j hj => by
        have := List.mem_range.1 hj
        rw [updF_ne _ _ (by omega), updF_ne _ _ (by omega)]
      rw [updF_self, updF_self, he ch [], List.append_nil]
      exact List.perm_append_comm
    · rw [updF_ne _ _ (by omega), updF_ne _ _ (by omega), ← List.append_assoc]
      exact (row_perm g k ch N (by omega)).append_right _
theorem St.take {N k : Nat} {g : Nat → Chunk} {B : Chunk} (S : St D (B :: (row N g ++ C)) h) (hk : k < N) : St D (g k :: B :: (row N (updF g k []) ++ C)) h := by
  refine S.perm ?_
  have := row_perm g k (g k) N hk
  rw [updF_id] at this
  simp only [List.flatten_cons, List.flatten_append]
  refine ((this.append_right C.flatten).append_left B).trans ?_
  rw [List.append_assoc, ← List.append_assoc, ← List.append_assoc (g k)]
  exact List.perm_append_comm.append_right _
theorem St.give {N k : Nat} {g : Nat → Chunk} {B ch : Chunk} (S : St D (ch :: B :: (row N (updF g k []) ++ C)) h) (hk : k < N) : St D (B :: (row N (updF g k ch) ++ C)) h := by
  refine S.perm ?_
  have := (row_perm g k ch N hk).symm
  simp only [List.flatten_cons, List.flatten_append]
  refine List.Perm.trans ?_ ((this.append_right C.flatten).append_left B)
  rw [List.append_assoc, ← List.append_assoc, ← List.append_assoc B]
  exact List.perm_append_comm.append_right _
def needsOf (P : List Stk) (k : Nat) : List Int := (P.filter fun p => p.1 == (k : Int)).map (·.2)
def usersOf (P : List Stk) (k : Nat) : List Int := (P.filter fun p => p.2 == (k : Int)).map (·.1)
theorem needsOf_snoc (P : List Stk) (p : Stk) (h : 0 ≤ p.1) : needsOf (P ++ [p]) = updF (needsOf P) p.1.toNat (needsOf P p.1.toNat ++ [p.2]) := by
  funext k
  unfold needsOf updF
  rw [List.filter_append, List.map_append]
  by_cases hk : k = p.1.toNat
  · subst hk
    rw [if_pos rfl]
    have : (p.1 == ((p.1.toNat : Nat) : Int)) = true := by simp; omega
    rw [List.filter_cons, if_pos this]; rfl
  · rw [if_neg hk]
    have : (p.1 == (k : Int)) = false := by simp; omega
    simp [List.filter_cons, this]
theorem usersOf_snoc (P : List Stk) (p : Stk) (h : 0 ≤ p.2) : usersOf (P ++ [p]) = updF (usersOf P) p.2.toNat (usersOf P p.2.toNat ++ [p.1]) := by
  funext k
  unfold usersOf updF
  rw [List.filter_append, List.map_append]
  by_cases hk : k = p.2.toNat
  · subst hk
    rw [if_pos rfl]
    have : (p.2 == ((p.2.toNat : Nat) : Int)) = true := by simp; omega
    rw [List.filter_cons, if_pos this]; rfl
  · rw [if_neg hk]
    have : (p.2 == (k : Int)) = false := by simp; omega
    simp [List.filter_cons, this]
def tab (N : Nat) (f : Nat → Value) : List Value := (List.range N).map f
theorem tab_len (N : Nat) (f : Nat → Value) : (tab N f).length = N := by simp [tab]
theorem tab_get {N k : Nat} (f : Nat → Value) (h : k < N) : (tab N f)[k]? = some (f k) := by simp [tab, h]
theorem tab_set {N k : Nat} (f : Nat → Value) (v : Value) : (tab N f).set k v = tab N (updF f k v) := by
  apply List.ext_getElem?
  intro j
  unfold tab
  by_cases hj : j < N
  · rw [List.getElem?_set]
    by_cases hk : k = j
    · subst hk; simp [hj, updF]
    · rw [if_neg hk]; simp [hj, updF, Ne.symm hk]
  · rw [List.getElem?_eq_none (by simp; omega), List.getElem?_eq_none (by simp; omega)]
def cellsW (n : Int) (A B : Nat → Value) (O : Nat → Int) : List Value := .int .i64 n :: (tab 65 A ++ (tab 65 (fun k => .int .i64 (O k)) ++ tab 65 B))
section
variable {n : Int} {A B : Nat → Value} {O : Nat → Int} {k : Nat}
theorem W_len : (cellsW n A B O).length = 196 := by simp [cellsW, tab_len]
theorem W_A (h : k < 65) : (cellsW n A B O)[1 + k]? = some (A k) := by
  unfold cellsW
  rw [Nat.add_comm, List.getElem?_cons_succ, List.getElem?_append_left (by rw [tab_len]; exact h), tab_get _ h]
theorem W_O (h : k < 65) : (cellsW n A B O)[66 + k]? = some (.int .i64 (O k)) := by
  unfold cellsW
  rw [show 66 + k = (65 + k) + 1 by omega, List.getElem?_cons_succ, List.getElem?_append_right (by rw [tab_len]; omega), tab_len, Nat.add_sub_cancel_left, List.getElem?_append_left (by rw [tab_len]; exact h), tab_get _ h]
theorem W_B (h : k < 65) : (cellsW n A B O)[131 + k]? = some (B k) := by
  unfold cellsW
  rw [show 131 + k = (65 + (65 + k)) + 1 by omega, List.getElem?_cons_succ, List.getElem?_append_right (by rw [tab_len]; omega), tab_len, Nat.add_sub_cancel_left, List.getElem?_append_right (by rw [tab_len]; omega), tab_len, Nat.add_sub_cancel_left, tab_get _ h]
theorem W_setA (h : k < 65) (v : Value) : (cellsW n A B O).set (1 + k) v = cellsW n (updF A k v) B O := by
  unfold cellsW
  rw [Nat.add_comm, List.set_cons_succ, List.set_append_left _ _ (by rw [tab_len]; exact h), tab_set]
theorem W_setO (h : k < 65) (x : Int) : (cellsW n A B O).set (66 + k) (.int .i64 x) = cellsW n A B (updF O k x) := by
  unfold cellsW
  rw [show 66 + k = (65 + k) + 1 by omega, List.set_cons_succ, List.set_append_right _ _ (by rw [tab_len]; omega), tab_len, Nat.add_sub_cancel_left, List.set_append_left _ _ (by rw [tab_len]; exact h), tab_set]
  congr 4
  funext j; unfold updF; split <;> rfl
theorem W_setB (h : k < 65) (v : Value) : (cellsW n A B O).set (131 + k) v = cellsW n A (updF B k v) O := by
  unfold cellsW
  rw [show 131 + k = (65 + (65 + k)) + 1 by omega, List.set_cons_succ, List.set_append_right _ _ (by rw [tab_len]; omega), tab_len, Nat.add_sub_cancel_left, List.set_append_right _ _ (by rw [tab_len]; omega), tab_len, Nat.add_sub_cancel_left, tab_set]
end
def Slots (D : Fz) (A : Nat → Value) (f : Nat → List Int) (g : Nat → Chunk) : Prop := ∀ k, k < 65 → ∃ a c, A k = .slice a (f k).length c ∧ Own D 3 1 a c ((f k).map eI) (g k)
theorem Slots.upd {A : Nat → Value} {f : Nat → List Int} {g : Nat → Chunk} (s : Slots D A f g) (k : Nat) {a : Option Addr} {c : Nat} {r : List Int} {ch : Chunk} (o : Own D 3 1 a c (r.map eI) ch) :
    Slots D (updF A k (.slice a r.length c)) (updF f k r) (updF g k ch) := by
  intro j hj
  unfold updF
  split
  · exact ⟨a, c, rfl, o⟩
  · exact s j hj
def RdW (D : Fz) (A : Nat → Value) (f : Nat → List Int) : Prop := ∀ k, k < 65 → ∃ a c, A k = .slice a (f k).length c ∧ Rd D (.slice a (f k).length c) (.l 1 ((f k).map eI))
theorem Own.rd {T : TypeId} {sz c : Nat} {a : Option Addr} {rows : List (List U)} {ch : Chunk} (o : Own D T sz a c rows ch) (l : Le D D') (g : ∀ p ∈ ch, D' p.1 = some p.2) : Rd D' (.slice a rows.length c) (.l sz rows) := by
  cases o with
  | nil => exact .nil _ _ _
  | row b c arr rows v h1 h2 h3 h4 h5 =>
    exact .row b 0 c arr T (0, 0) rows sz v (g (b, _) (by simp)) h2 h3 (fun i j r u a b => by rw [Nat.zero_add]; exact h4 i j r u a b) fun i j r u a b => (h5 i j r u a b).mono l
theorem Slots.rd {A : Nat → Value} {f : Nat → List Int} {g : Nat → Chunk} (s : Slots D A f g) (l : Le D D') (hg : ∀ p ∈ (row 65 g).flatten, D' p.1 = some p.2) : RdW D' A f := by
  intro k hk
  obtain ⟨a, c, e, o⟩ := s k hk
  refine ⟨a, c, e, ?_⟩
  have := o.rd l fun p hp => hg p (List.mem_flatten.2 ⟨g k, List.mem_map.2 ⟨k, List.mem_range.2 hk, rfl⟩, hp⟩)
  rwa [List.length_map] at this
theorem St.swapR {B : Chunk} {X Y : List Chunk} (S : St D (B :: (X ++ (Y ++ C))) h) : St D (B :: (Y ++ (X ++ C))) h := by
  refine S.perm ?_
  simp only [List.flatten_cons, List.flatten_append]
  refine List.Perm.append_left B ?_
  rw [← List.append_assoc, ← List.append_assoc]
  exact List.perm_append_comm.append_right _
end Go.Proofs.YtedpdommppfmdaaGreat

/- A web in memory: its cells, its slots; how it is made. -/
set_option linter.unusedVariables false
namespace Go.Proofs.YtedpdommppfmdaaGreat
open Go Go.Proofs
attribute [local irreducible] appK copyK delK updK lookK makeK rangeK nextM entryM mapEntryK entryStK lenMapK
variable {D D' : Fz} {C : List Chunk} {h h' : Heap} {x W : Chunk} {X Y : List Chunk}
theorem St.inn (S : St D (x :: W :: (X ++ (Y ++ C))) h) : St D (W :: (X ++ (Y ++ (x :: C)))) h := by
  refine S.perm ?_
  simp only [List.flatten_cons, List.flatten_append]
  refine List.perm_append_comm_assoc .. |>.trans (List.Perm.append_left W ?_)
  refine List.perm_append_comm_assoc .. |>.trans (List.Perm.append_left _ ?_)
  exact List.perm_append_comm_assoc ..
theorem St.out (S : St D (W :: (X ++ (Y ++ (x :: C)))) h) : St D (x :: W :: (X ++ (Y ++ C))) h := by
  refine S.perm (List.Perm.symm ?_)
  simp only [List.flatten_cons, List.flatten_append]
  refine List.perm_append_comm_assoc .. |>.trans (List.Perm.append_left W ?_)
  refine List.perm_append_comm_assoc .. |>.trans (List.Perm.append_left _ ?_)
  exact List.perm_append_comm_assoc ..
abbrev webC (n : Int) (A B : Nat → Value) (O : Nat → Int) (w : Nat) : Chunk := [(w, .cells ⟨cellsW n A B O⟩ 264 (0, 0))]
def WS (D : Fz) (n : Int) (A B : Nat → Value) (fA fB : Nat → List Int) (O : Nat → Int) (w : Nat) (C : List Chunk) (h : Heap) : Prop :=
  ∃ gA gB, Slots D A fA gA ∧ Slots D B fB gB ∧ St D (webC n A B O w :: (row 65 gA ++ (row 65 gB ++ C))) h
section
variable {n : Int} {A B : Nat → Value} {fA fB : Nat → List Int} {O : Nat → Int} {w k : Nat}
theorem St.behind : ∀ (X : List Chunk) {C : List Chunk}, St D (X ++ C) h → St D C h
  | [], _, S => S
  | _ :: X, _, S => St.behind X S.drop
theorem WS.cc (s : WS D n A B fA fB O w C h) : St D C h := by
  obtain ⟨gA, gB, -, -, S⟩ := s
  exact St.behind (_ :: (row 65 gA ++ row 65 gB)) (by simpa using S)
theorem WS.new {o : Obj} {K : Nat → Heap → Prop} (s : WS D n A B fA fB O w C h) (hK : ∀ b h1, WS D n A B fA fB O w ([(b, o)] :: C) h1 → K b h1) : newB h o K := by
  obtain ⟨gA, gB, a, b, S⟩ := s
  exact S.new fun m h1 S => hK m h1 ⟨gA, gB, a, b, S.inn⟩
theorem WS.store {m i o : Nat} {l vs : List Value} {T : TypeId} {K : Heap → Prop} (s : WS D n A B fA fB O w ([(m, .cells ⟨l⟩ T (0, 0))] :: C) h) (hl : Nat.ble (o + i + vs.length) l.length = true) (hv : vs.all single = true)
    (hK : ∀ h', WS D n A B fA fB O w ([(m, .cells ⟨splice l (o + i) vs⟩ T (0, 0))] :: C) h' → K h') : storeS m o vs i h K := by
  obtain ⟨gA, gB, a, b, S⟩ := s
  exact S.out.st0 hl hv fun h' S => hK h' ⟨gA, gB, a, b, S.inn⟩
theorem WS.drop {x : Chunk} (s : WS D n A B fA fB O w (x :: C) h) : WS D n A B fA fB O w C h := by
  obtain ⟨gA, gB, a, b, S⟩ := s
  exact ⟨gA, gB, a, b, S.out.drop⟩
theorem WS.cell (s : WS D n A B fA fB O w C h) (o : Nat) : hcell h ⟨w, o, none⟩ = (cellsW n A B O)[o]? := by
  obtain ⟨gA, gB, a, b, S⟩ := s
  rw [S.ld0]; simp
theorem WS.nn (s : WS D n A B fA fB O w C h) : hcell h ⟨w, 0, none⟩ = some (.int .i64 n) := s.cell 0
theorem WS.a (s : WS D n A B fA fB O w C h) (hk : k < 65) : hcell h ⟨w, 1 + k, none⟩ = some (A k) := by rw [s.cell, W_A hk]
theorem WS.o (s : WS D n A B fA fB O w C h) (hk : k < 65) : hcell h ⟨w, 66 + k, none⟩ = some (.int .i64 (O k)) := by rw [s.cell, W_O hk]
theorem WS.b (s : WS D n A B fA fB O w C h) (hk : k < 65) : hcell h ⟨w, 131 + k, none⟩ = some (B k) := by rw [s.cell, W_B hk]
theorem WS.sl (s : WS D n A B fA fB O w C h) (hk : k < 65) : (∃ a c, A k = .slice a (fA k).length c) ∧ ∃ a c, B k = .slice a (fB k).length c := by
  obtain ⟨gA, gB, a, b, S⟩ := s
  obtain ⟨a1, c1, e1, -⟩ := a k hk
  obtain ⟨a2, c2, e2, -⟩ := b k hk
  exact ⟨⟨a1, c1, e1⟩, a2, c2, e2⟩
theorem WS.setO {y : Int} {K : Heap → Prop} (s : WS D n A B fA fB O w C h) (hk : k < 65) (hK : ∀ h', WS D n A B fA fB (updF O k y) w C h' → K h') : stK h ⟨w, 66 + k, none⟩ (.int .i64 y) K := by
  obtain ⟨gA, gB, a, b, S⟩ := s
  refine S.sk0 (Nat.ble_eq_true_of_le (by rw [W_len]; omega)) rfl fun h' S => hK h' ⟨gA, gB, a, b, ?_⟩
  rwa [W_setO hk] at S
theorem WS.appA {m : Nat} {y : Int} {T : TypeId} {K : Value → Heap → Prop} (s : WS D n A B fA fB O w ([(m, .cells ⟨[.int .i64 y]⟩ T (0, 0))] :: C) h) (hk : k < 65) (hb : (fA k).length ≤ 1000)
    (hK : ∀ a' n' c' h', St D C h' → (∀ K' : Heap → Prop, (∀ h'', WS D n (updF A k (.slice a' n' c')) B (updF fA k (fA k ++ [y])) fB O w C h'' → K' h'') → stK h' ⟨w, 1 + k, none⟩ (.slice a' n' c') K') → K (.slice a' n' c') h') :
    appK Tryz.prog #[102, 102] 102 (A k) (.slice (some ⟨m, 0, none⟩) 1 1) h K := by
  obtain ⟨gA, gB, sa, sb, S⟩ := s
  obtain ⟨a, c, e, own⟩ := sa k hk
  rw [e]
  have S2 := St.take S hk
  have src : Src D h 1 (some ⟨m, 0, none⟩) ([y].map eI) := Src.one (T := T) (f := (0, 0)) (c := []) S2 (by simp) (rd_I.2 rfl) rfl
  refine app_e (r := fA k) (r2 := [y]) eyI own S2 src rfl rfl (by simp; omega) fun a' c' ch' h' o' S' => hK a' _ c' h' ?_ fun K' hK' => ?_
  · exact St.behind (ch' :: webC n A B O w :: (row 65 (updF gA k []) ++ (row 65 gB ++ [[(m, .cells ⟨[.int .i64 y]⟩ T (0, 0))]]))) (by simpa using S')
  · refine S'.sk1 (Nat.ble_eq_true_of_le (by rw [W_len]; omega)) rfl fun h'' S'' => hK' h'' (WS.drop (x := [(m, .cells ⟨[.int .i64 y]⟩ T (0, 0))]) ⟨updF gA k ch', gB, ?_, sb, ?_⟩)
    · exact sa.upd k o'
    · rw [W_setA hk] at S''
      exact St.give S'' hk
theorem WS.appB {m : Nat} {y : Int} {T : TypeId} {K : Value → Heap → Prop} (s : WS D n A B fA fB O w ([(m, .cells ⟨[.int .i64 y]⟩ T (0, 0))] :: C) h) (hk : k < 65) (hb : (fB k).length ≤ 1000)
    (hK : ∀ a' n' c' h', St D C h' → (∀ K' : Heap → Prop, (∀ h'', WS D n A (updF B k (.slice a' n' c')) fA (updF fB k (fB k ++ [y])) O w C h'' → K' h'') → stK h' ⟨w, 131 + k, none⟩ (.slice a' n' c') K') → K (.slice a' n' c') h') :
    appK Tryz.prog #[102, 102] 102 (B k) (.slice (some ⟨m, 0, none⟩) 1 1) h K := by
  obtain ⟨gA, gB, sa, sb, S⟩ := s
  obtain ⟨a, c, e, own⟩ := sb k hk
  rw [e]
  have S2 := St.take S.swapR hk
  have src : Src D h 1 (some ⟨m, 0, none⟩) ([y].map eI) := Src.one (T := T) (f := (0, 0)) (c := []) S2 (by simp) (rd_I.2 rfl) rfl
  refine app_e (r := fB k) (r2 := [y]) eyI own S2 src rfl rfl (by simp; omega) fun a' c' ch' h' o' S' => hK a' _ c' h' ?_ fun K' hK' => ?_
  · exact St.behind (ch' :: webC n A B O w :: (row 65 (updF gB k []) ++ (row 65 gA ++ [[(m, .cells ⟨[.int .i64 y]⟩ T (0, 0))]]))) (by simpa using S')
  · refine S'.sk1 (Nat.ble_eq_true_of_le (by rw [W_len]; omega)) rfl fun h'' S'' => hK' h'' (WS.drop (x := [(m, .cells ⟨[.int .i64 y]⟩ T (0, 0))]) ⟨gA, updF gB k ch', sa, ?_, ?_⟩)
    · exact sb.upd k o'
    · rw [W_setB hk] at S''
      exact (St.give S'' hk).swapR
end
structure gOK (n : Int) (L : List Stk) : Prop where
  n0 : 0 ≤ n
  n64 : n ≤ 64
  len : L.length ≤ 256
  ok : ∀ p ∈ L, inn p.1 1 n = true ∧ inn p.2 1 n = true
theorem is_spec {n node : Int} {w : Nat} {R : Value → Heap → Prop} (hc : hcell h ⟨w, 0, none⟩ = some (.int .i64 n)) (k : R (.bool (inn node 1 n)) h) : Run Tryz.prog 235 [.pointer (some ⟨w, 0, none⟩), .int .i64 node] h R := by
  refine V235 _ _ _ _ ?_
  unfold VC235
  refine cIf (fun h1 => onPtr_s ⟨_, hc, ?_⟩) fun h1 => ?_
  · rwa [show inn node 1 n = decide (node ≤ n) by unfold inn; simp; omega] at k
  · rwa [show inn node 1 n = false by unfold inn; simp; omega] at k
theorem row_nil (N : Nat) : (row N fun _ => []).flatten = [] := by simp [row]
theorem needsOf_len (t : List Stk) (k : Nat) : (needsOf t k).length ≤ t.length := by unfold needsOf; rw [List.length_map]; exact List.length_filter_le ..
theorem usersOf_len (t : List Stk) (k : Nat) : (usersOf t k).length ≤ t.length := by unfold usersOf; rw [List.length_map]; exact List.length_filter_le ..
theorem made_spec {a : Option Addr} {c : Nat} {L : List Stk} {n : Int} {R : Value → Heap → Prop} (S : St D C h) (hx : Rd D (.slice a L.length c) (.l 2 (L.map eS)))
    (k0 : ¬ gOK n L → ∀ h', St D C h' → R (.pointer none) h') (k1 : gOK n L → ∀ A B w h', WS D n A B (needsOf L) (usersOf L) (fun k => ((needsOf L k).length : Int)) w C h' → R (.pointer (some ⟨w, 0, none⟩)) h') :
    Run Tryz.prog 222 [.int .i64 n, .slice a L.length c] h R := by
  refine V222 _ _ _ _ _ _ ?_
  unfold VC222
  refine cIf (fun h1 => k0 (fun g => by have := g.n0; omega) h S) fun h1 => cIf (fun h2 => k0 (fun g => by have := g.n64; omega) h S) fun h2 => cIf (fun h3 => k0 (fun g => by have := g.len; omega) h S) fun h3 => ?_
  refine S.new fun w h1 S => ?_
  have W0 : WS D n (fun _ => .slice none 0 0) (fun _ => .slice none 0 0) (needsOf []) (usersOf []) (fun k => ((needsOf [] k).length : Int)) w C h1 :=
    ⟨fun _ => [], fun _ => [], fun k _ => ⟨none, 0, rfl, .nil⟩, fun k _ => ⟨none, 0, rfl, .nil⟩, St.perm S (by simp [row_nil]; exact .refl _)⟩
  clear S
  refine ⟨fun x h' => ∃ t l A B, x = ((List.length t : Nat) : Int) ∧ L = t ++ l ∧ (∀ p ∈ t, inn p.1 1 n = true ∧ inn p.2 1 n = true) ∧ WS D n A B (needsOf t) (usersOf t) (fun k => ((needsOf t k).length : Int)) w C h', fun x _ => L.length - x.toNat, ⟨[], L, _, _, rfl, rfl, by simp, W0⟩, ?_⟩
  clear W0
  rintro - h2 x ⟨t, l, A, B, rfl, hL, hok, W⟩
  have hlen := congrArg List.length hL
  rw [List.length_append] at hlen
  refine cIf (fun hlt => ?_) fun hge => ?_
  rotate_left
  · have : l = [] := List.eq_nil_of_length_eq_zero (by omega)
    subst this
    rw [List.append_nil] at hL
    subst hL
    exact k1 ⟨by omega, by omega, by omega, hok⟩ A B w h2 W
  rcases l with _ | ⟨p, l⟩
  · simp at hlen; omega
  have hgt : (L.map eS)[t.length]? = some (eS p) := by rw [hL]; simp
  obtain ⟨hs, h0 | ⟨bb, o, vv, rfl, hc⟩⟩ := hx.src W.cc
  · rw [h0] at hgt; simp at hgt
  have c0 := hc t.length 0 _ _ hgt rfl
  have c1 := hc t.length 1 _ _ hgt rfl
  rw [Rd.int_iff.1 c0.2] at c0
  rw [Rd.int_iff.1 c1.2] at c1
  have bad : ¬ (inn p.1 1 n = true ∧ inn p.2 1 n = true) → ∀ h', St D C h' → R (.pointer none) h' := fun hb => k0 fun g => hb (g.ok p (by rw [hL]; simp))
  refine onPtr_s ⟨by omega, by omega, _, c0.1, _, c1.1, ?_⟩
  refine W.new fun m h3 W => W.store (by rfl) (by rfl) fun h4 W => ?_
  have W : WS D n A B (needsOf t) (usersOf t) (fun k => ((needsOf t k).length : Int)) w ([(m, .cells ⟨[.int .i64 p.1, .int .i64 p.2]⟩ 163 (0, 0))] :: C) h4 := W
  have rd : ∀ {h' : Heap}, St D ([(m, .cells ⟨[.int .i64 p.1, .int .i64 p.2]⟩ 163 (0, 0))] :: C) h' → hcell h' ⟨m, 0, none⟩ = some (.int .i64 p.1) ∧ hcell h' ⟨m, 1, none⟩ = some (.int .i64 p.2) := fun S => ⟨S.ld0, S.ld0⟩
  have r4 := rd W.cc
  refine ⟨by decide, by decide, _, r4.1, is_spec W.nn ⟨_, rfl, cNot (cB (fun i1 => ?_) fun i1 => bad (by simp [i1]) _ W.cc.drop)⟩⟩
  refine ⟨by decide, by decide, _, r4.2, is_spec W.nn ⟨_, rfl, cNot (cB (fun i2 => ?_) fun i2 => bad (by simp [i2]) _ W.cc.drop)⟩⟩
  have j1 := inn_iff.1 i1
  have j2 := inn_iff.1 i2
  have k1' : p.1.toNat < 65 := by omega
  have k2' : p.2.toNat < 65 := by omega
  obtain ⟨⟨a1, cc1, e1⟩, -⟩ := W.sl k1'
  obtain ⟨-, a2, cc2, e2⟩ := W.sl k2'
  have ra := W.a k1'
  rw [e1] at ra
  refine ⟨by decide, by decide, _, r4.1, by decide, by decide, _, r4.1, by omega, by omega, _, _, _, by rw [Nat.mul_one]; exact ra, by decide, by decide, _, r4.2, W.new fun m7 h7 W => ?_⟩
  have r7 := rd W.cc.drop
  have ra := W.a k1'
  rw [e1] at ra
  refine ⟨⟨_, _, _, by rw [Nat.mul_one]; exact ra, rfl⟩, ⟨_, r7.1, rfl⟩, ⟨_, r7.1, rfl⟩, ?_⟩
  rw [← e1]
  have hbA : (needsOf t p.1.toNat).length ≤ 1000 := by have := needsOf_len t p.1.toNat; omega
  have hbB : (usersOf t p.2.toNat).length ≤ 1000 := by have := usersOf_len t p.2.toNat; omega
  refine WS.appA W k1' hbA fun a3 n3 c3 h8 S8 st => ⟨_, _, _, rfl, ⟨_, (rd S8).1, rfl⟩, by omega, by omega, ?_⟩
  rw [Nat.mul_one]
  refine st _ fun h9 W => ?_
  have r9 := rd W.cc
  have rb := W.b k2'
  rw [e2] at rb
  refine ⟨by decide, by decide, _, r9.2, by decide, by decide, _, r9.2, by omega, by omega, _, _, _, by rw [Nat.mul_one]; exact rb, by decide, by decide, _, r9.1, W.new fun m8 h10 W => ?_⟩
  have r10 := rd W.cc.drop
  have rb := W.b k2'
  rw [e2] at rb
  refine ⟨⟨_, _, _, by rw [Nat.mul_one]; exact rb, rfl⟩, ⟨_, r10.2, rfl⟩, ⟨_, r10.2, rfl⟩, ?_⟩
  rw [← e2]
  refine WS.appB W k2' hbB fun a4 n4 c4 h11 S11 st => ⟨_, _, _, rfl, ⟨_, (rd S11).2, rfl⟩, by omega, by omega, ?_⟩
  rw [Nat.mul_one]
  refine st _ fun h12 W => ?_
  have r12 := rd W.cc
  have ro := W.o k1'
  refine ⟨by decide, by decide, _, r12.1, by omega, by omega, _, by rw [Nat.mul_one]; exact ro, by omega, by omega, ?_⟩
  rw [Nat.mul_one, w64 (by omega) (by omega)]
  refine W.setO k1' fun h13 W => ?_
  rw [w64n (by omega)]
  refine ⟨⟨t ++ [p], l, updF A p.1.toNat (.slice a3 n3 c3), updF B p.2.toNat (.slice a4 n4 c4), by simp, by rw [hL]; simp, fun q hq => ?_, ?_⟩, by simp only [Int.toNat_natCast]; omega⟩
  · rcases List.mem_append.1 hq with hq | hq
    · exact hok q hq
    · simp at hq; subst hq; exact ⟨i1, i2⟩
  · have eA := needsOf_snoc t p (by omega)
    have eB := usersOf_snoc t p (by omega)
    rw [eA, eB]
    have eO : (fun k => (((updF (needsOf t) p.1.toNat (needsOf t p.1.toNat ++ [p.2])) k).length : Int)) = updF (fun k => ((needsOf t k).length : Int)) p.1.toNat (((needsOf t p.1.toNat).length : Int) + 1) := by
      funext j; unfold updF; split <;> simp
    rw [eO]
    exact W.drop
end Go.Proofs.YtedpdommppfmdaaGreat

/- Nodes by what they need: the order that is made by always taking the least node whose needs are all taken. Plain. -/
set_option linter.unusedVariables false
namespace Go.Proofs.YtedpdommppfmdaaGreat
open Go Go.Proofs
def Nx1 (L : List Stk) (n : Int) (out : List Int) (k : Int) : Prop := 1 ≤ k ∧ k ≤ n ∧ k ∉ out ∧ ∀ p ∈ L, p.1 = k → p.2 ∈ out
inductive Greedy (L : List Stk) (n : Int) : List Int → Prop where
  | nil : Greedy L n []
  | snoc {out : List Int} {k : Int} : Greedy L n out → Nx1 L n out k → (∀ j, Nx1 L n out j → k ≤ j) → Greedy L n (out ++ [k])
section
variable {L : List Stk} {n : Int} {a b out : List Int} {k : Int}
theorem Greedy.inv (h : Greedy L n (out ++ [k])) : Greedy L n out ∧ Nx1 L n out k ∧ ∀ j, Nx1 L n out j → k ≤ j := by
  generalize hx : out ++ [k] = x at h
  cases h with
  | nil => simp at hx
  | snoc g h1 h2 =>
    obtain ⟨rfl, rfl⟩ := List.append_inj' hx rfl |>.imp id (fun h => by simpa using h)
    exact ⟨g, h1, h2⟩
theorem snoc_cases (l : List Int) : l = [] ∨ ∃ t x, l = t ++ [x] := by
  by_cases h : l = []
  · exact .inl h
  · exact .inr ⟨l.dropLast, l.getLast h, (List.dropLast_concat_getLast h).symm⟩
theorem Greedy.same : ∀ {a b : List Int}, Greedy L n a → Greedy L n b → a.length = b.length → a = b := by
  intro a
  induction h : a.length generalizing a with
  | zero =>
    intro b _ _ hl
    have := List.eq_nil_of_length_eq_zero h
    have := List.eq_nil_of_length_eq_zero hl.symm
    simp [*]
  | succ m ih =>
    intro b ga gb hl
    rcases snoc_cases a with rfl | ⟨t, x, rfl⟩
    · cases h
    rcases snoc_cases b with rfl | ⟨u, y, rfl⟩
    · cases hl
    simp at h hl
    obtain ⟨g1, n1, m1⟩ := ga.inv
    obtain ⟨g2, n2, m2⟩ := gb.inv
    have := ih h g1 g2 (by omega)
    subst this
    have h1 := m1 y n2
    have h2 := m2 x n1
    rw [show x = y by omega]
theorem Greedy.take (g : Greedy L n a) : ∀ m, Greedy L n (a.take m) := by
  induction g with
  | nil => intro m; simp; exact .nil
  | @snoc out k g h1 h2 ih =>
    intro m
    by_cases hm : m ≤ out.length
    · rw [List.take_append_of_le_length hm]; exact ih m
    · rw [List.take_of_length_le (by simp; omega)]; exact .snoc g h1 h2
theorem Greedy.max (ga : Greedy L n a) (hn : ∀ k, ¬ Nx1 L n a k) (gb : Greedy L n b) : b.length ≤ a.length := by
  apply Decidable.byContradiction
  intro h
  have h1 : b.take a.length = a := (gb.take _).same ga (by rw [List.length_take]; omega)
  have h2 := gb.take (a.length + 1)
  have hb : b[a.length]? = some b[a.length] := List.getElem?_eq_getElem (by omega)
  rw [List.take_add_one, hb, h1] at h2
  exact hn _ h2.inv.2.1
theorem Greedy.nodup (g : Greedy L n a) : a.Nodup := by
  induction g with
  | nil => exact .nil
  | snoc g h1 h2 ih =>
    rw [List.nodup_append]
    refine ⟨ih, by simp, ?_⟩
    intro x hx y hy e
    simp at hy; subst hy; subst e
    exact h1.2.2.1 hx
theorem Greedy.mem (g : Greedy L n a) : ∀ x ∈ a, 1 ≤ x ∧ x ≤ n := by
  induction g with
  | nil => simp
  | snoc g h1 h2 ih =>
    intro x hx
    rcases List.mem_append.1 hx with hx | hx
    · exact ih x hx
    · simp at hx; subst hx; exact ⟨h1.1, h1.2.1⟩
theorem Greedy.met (g : Greedy L n a) : ∀ k ∈ a, ∀ p ∈ L, p.1 = k → p.2 ∈ a := by
  induction g with
  | nil => simp
  | snoc g h1 h2 ih =>
    intro k hk p hp e
    rw [List.mem_append]
    rcases List.mem_append.1 hk with hk | hk
    · exact .inl (ih k hk p hp e)
    · simp at hk; subst hk; exact .inl (h1.2.2.2 p hp e)
theorem nodup_len : ∀ {a : List Int} {n : Int}, a.Nodup → (∀ x ∈ a, 1 ≤ x ∧ x ≤ n) → 0 ≤ n → (a.length : Int) ≤ n := by
  intro a n hd hm hn
  have hsub : a ⊆ (List.range n.toNat).map fun (i : Nat) => (i : Int) + 1 := fun x hx => by
    have := hm x hx
    exact List.mem_map.2 ⟨(x - 1).toNat, List.mem_range.2 (by omega), by omega⟩
  have := hd.length_le_of_subset hsub
  simp at this
  omega
def cRg (L : List Stk) (out : List Int) (k : Int) : Nat := (L.filter fun p => p.1 == k && !out.contains p.2).length
theorem cR_zero : cRg L out k = 0 ↔ ∀ p ∈ L, p.1 = k → p.2 ∈ out := by
  unfold cRg
  rw [List.length_eq_zero_iff, List.filter_eq_nil_iff]
  simp
theorem cR_nil (k : Nat) : cRg L [] (k : Int) = (needsOf L k).length := by
  unfold cRg needsOf
  simp
theorem cR_snoc {x : Int} (hx : x ∉ out) : cRg L out k = cRg L (out ++ [x]) k + (L.filter fun p => p.1 == k && p.2 == x).length := by
  induction L with
  | nil => rfl
  | cons p L ih =>
    unfold cRg at ih ⊢
    simp only [List.filter_cons]
    by_cases h1 : p.1 = k
    · by_cases h2 : p.2 = x
      · have : p.2 ∉ out := h2 ▸ hx
        simp [h1, h2, hx] at ih ⊢; omega
      · by_cases h3 : p.2 ∈ out
        · simp [h1, h2, h3] at ih ⊢; omega
        · simp [h1, h2, h3] at ih ⊢; omega
    · simp [h1] at ih ⊢; omega
theorem users_count {x : Nat} : (usersOf L x).count k = (L.filter fun p => p.1 == k && p.2 == (x : Int)).length := by
  unfold usersOf
  rw [List.count, List.countP_map, List.countP_eq_length_filter, List.filter_filter]
  congr 1
end
end Go.Proofs.YtedpdommppfmdaaGreat

/- The order of a web's nodes, in memory. -/
set_option linter.unusedVariables false
namespace Go.Proofs.YtedpdommppfmdaaGreat
open Go Go.Proofs
attribute [local irreducible] appK copyK delK updK lookK makeK rangeK nextM entryM mapEntryK entryStK lenMapK clearK
variable {D D' : Fz} {C : List Chunk} {h h' : Heap} {x W : Chunk} {X Y : List Chunk}
section
variable {n : Int} {A B : Nat → Value} {fA fB : Nat → List Int} {O : Nat → Int} {w k : Nat}
theorem WS.swap {x y : Chunk} (s : WS D n A B fA fB O w (x :: y :: C) h) : WS D n A B fA fB O w (y :: x :: C) h := by
  obtain ⟨gA, gB, a, b, S⟩ := s
  refine ⟨gA, gB, a, b, S.perm ?_⟩
  simp only [List.flatten_cons, List.flatten_append]
  refine List.Perm.append_left _ (List.Perm.append_left _ (List.Perm.append_left _ ?_))
  exact List.perm_append_comm_assoc ..
theorem WS.swap2 {x y z : Chunk} (s : WS D n A B fA fB O w (x :: y :: z :: C) h) : WS D n A B fA fB O w (y :: z :: x :: C) h := by
  obtain ⟨gA, gB, a, b, S⟩ := s
  refine ⟨gA, gB, a, b, S.perm ?_⟩
  simp only [List.flatten_cons, List.flatten_append]
  refine List.Perm.append_left _ (List.Perm.append_left _ (List.Perm.append_left _ ?_))
  refine (List.perm_append_comm_assoc ..).trans (List.Perm.append_left _ ?_)
  exact List.perm_append_comm_assoc ..
theorem WS.app {m c : Nat} {y : Int} {T : TypeId} {a : Option Addr} {r : List Int} {ch : Chunk} {K : Value → Heap → Prop} (own : Own D 3 1 a c (r.map eI) ch) (s : WS D n A B fA fB O w ([(m, .cells ⟨[.int .i64 y]⟩ T (0, 0))] :: ch :: C) h) (hb : r.length ≤ 1000)
    (hK : ∀ a' c' ch' h', Own D 3 1 a' c' ((r ++ [y]).map eI) ch' → WS D n A B fA fB O w (ch' :: C) h' → K (.slice a' (r ++ [y]).length c') h') :
    appK Tryz.prog #[102, 102] 102 (.slice a r.length c) (.slice (some ⟨m, 0, none⟩) 1 1) h K := by
  obtain ⟨gA, gB, sa, sb, S⟩ := s
  have src : Src D h 1 (some ⟨m, 0, none⟩) ([y].map eI) := Src.one (T := T) (f := (0, 0)) (c := []) S (by simp) (rd_I.2 rfl) rfl
  exact app_e (r := r) (r2 := [y]) eyI own S.out.drop.out src rfl rfl (by simp; omega) fun a' c' ch' h' o' S' => hK a' c' ch' h' o' ⟨gA, gB, sa, sb, S'.inn⟩
theorem WS.sk {m i : Nat} {l : List Value} {v : Value} {T : TypeId} {K : Heap → Prop} (s : WS D n A B fA fB O w ([(m, .cells ⟨l⟩ T (0, 0))] :: C) h) (hl : Nat.ble (i + 1) l.length = true) (hv : single v = true)
    (hK : ∀ h', WS D n A B fA fB O w ([(m, .cells ⟨l.set i v⟩ T (0, 0))] :: C) h' → K h') : stK h ⟨m, i, none⟩ v K := by
  obtain ⟨gA, gB, a, b, S⟩ := s
  exact S.out.sk0 hl hv fun h' S => hK h' ⟨gA, gB, a, b, S.inn⟩
theorem WS.user {a : Option Addr} {m c i : Nat} {y : Int} {z : Int} {K : Nat → Nat → Prop} (s : WS D n A B fA fB O w C h) (hk : k < 65) (e : B k = .slice a m c) (hz : z = (i : Int)) (hi : (fB k)[i]? = some y) (hK : ∀ b o, hcell h ⟨b, o + z.toNat * 1, none⟩ = some (.int .i64 y) → K b o) : onPtr a K := by
  obtain ⟨gA, gB, sa, sb, S⟩ := s
  obtain ⟨a', c', e', own⟩ := sb k hk
  rw [e] at e'
  cases e'
  exact own_I own (St.take S.swapR hk) hz hi hK
theorem St.cellOf {b o : Nat} {l : List Value} {T : TypeId} {f : Nat × Nat} (S : St D C h) (hm : ([(b, Obj.cells ⟨l⟩ T f)] : Chunk) ∈ C) : hcell h ⟨b, o, Option.none⟩ = l[o]? := by
  have := S.own (b, .cells ⟨l⟩ T f) (List.mem_flatten.2 ⟨_, hm, by simp⟩)
  rw [hcell_of this]; simp
end
theorem keepI_mem {p : Int → Bool} {l : List Int} {x : Int} : x ∈ keepI p l ↔ x ∈ l ∧ p x = false := by simp [keepI]
theorem nx1_iff {L : List Stk} {n : Int} {out : List Int} {k : Int} : Nx1 L n out k ↔ 1 ≤ k ∧ k ≤ n ∧ k ∉ out ∧ cRg L out k = 0 := by rw [cR_zero]; rfl
theorem order_spec {L : List Stk} {n : Int} {A B : Nat → Value} {w : Nat} (g : gOK n L) (W : WS D n A B (needsOf L) (usersOf L) (fun k => ((needsOf L k).length : Int)) w C h) :
    Run Tryz.prog 223 [.pointer (some ⟨w, 0, none⟩)] h fun v h' => ∃ a c out ch O, v = .slice a (List.length out) c ∧ Greedy L n out ∧ (∀ k, ¬ Nx1 L n out k) ∧ Own D 3 1 a c (out.map eI) ch ∧ WS D n A B (needsOf L) (usersOf L) O w (ch :: C) h' := by
  obtain ⟨g0, g1, g2, g3⟩ := g
  have hp1 : ∀ p ∈ L, 1 ≤ p.1 ∧ p.1 ≤ n := fun p hp => inn_iff.1 (g3 p hp).1
  refine V223 _ _ _ ?_
  unfold VC223
  refine ⟨fun p m c x h1 => ∃ (r : List Int) (ch : Chunk), 1 ≤ x ∧ x ≤ n + 1 ∧ m = List.length r ∧ Own D 3 1 p c (r.map eI) ch ∧ WS D n A B (needsOf L) (usersOf L) (fun k => ((needsOf L k).length : Int)) w (ch :: C) h1 ∧ r.Nodup ∧ ∀ k, k ∈ r ↔ 1 ≤ k ∧ k < x ∧ cRg L [] k = 0,
    fun _ _ _ x _ => (n + 1 - x).toNat, ⟨[], [], by decide, by omega, rfl, .nil, by obtain ⟨gA, gB, a, b, S⟩ := W; exact ⟨gA, gB, a, b, S.nil.swap.perm (by simp)⟩, .nil, fun k => by simp; omega⟩, ?_⟩
  clear W
  rintro - h1 p m c x ⟨r, ch, hx1, hx2, rfl, own, W, hnd, hr⟩
  refine onPtr_s ⟨_, W.nn, ?_⟩
  refine cIf (fun hle => ?_) fun hgt => ?_
  · have hk : x.toNat < 65 := by omega
    have hrl : r.length ≤ 64 := by
      have := nodup_len hnd (fun y hy => by have := (hr y).1 hy; exact ⟨this.1, show y ≤ n by omega⟩) g0
      omega
    have ho := W.o hk
    have hcx : cRg L [] x = (needsOf L x.toNat).length := by
      have := cR_nil (L := L) x.toNat
      rwa [show ((x.toNat : Nat) : Int) = x by omega] at this
    have hstep : ∀ r' : List Int, (∀ k, k ∈ r' ↔ k ∈ r ∨ (k = x ∧ cRg L [] x = 0)) → ∀ k, k ∈ r' ↔ 1 ≤ k ∧ k < x + 1 ∧ cRg L [] k = 0 := by
      intro r' h k
      rw [h, hr]
      constructor
      · rintro (h | ⟨rfl, h⟩)
        · exact ⟨h.1, by omega, h.2.2⟩
        · exact ⟨hx1, by omega, h⟩
      · rintro ⟨h1, h2, h3⟩
        by_cases hkx : k = x
        · subst hkx; exact .inr ⟨rfl, h3⟩
        · exact .inl ⟨h1, by omega, h3⟩
    refine onPtr_s ⟨by omega, by omega, _, by rw [Nat.mul_one, Nat.zero_add]; exact ho, ?_⟩
    rw [w64 (by omega) (by omega)]
    refine cEq (fun h0 => W.new fun m7 h2 W => WS.app own W (by omega) fun a' c' ch' h3 own W => ⟨_, _, _, rfl, ⟨r ++ [x], ch', by omega, by omega, rfl, own, W, ?_, ?_⟩, by show (n + 1 - (x + 1)).toNat < (n + 1 - x).toNat; omega⟩) fun h0 => ⟨⟨r, ch, by omega, by omega, rfl, own, W, hnd, ?_⟩, by show (n + 1 - (x + 1)).toNat < (n + 1 - x).toNat; omega⟩
    · rw [List.nodup_append]
      refine ⟨hnd, by simp, fun a ha b hb e => ?_⟩
      simp at hb; subst hb; subst e
      have := (hr _).1 ha; omega
    · refine hstep _ fun k => ?_
      rw [List.mem_append, List.mem_singleton]
      constructor
      · rintro (h | rfl)
        · exact .inl h
        · exact .inr ⟨rfl, by omega⟩
      · rintro (h | ⟨rfl, -⟩)
        · exact .inl h
        · exact .inr rfl
    · refine hstep _ fun k => ⟨.inl, ?_⟩
      rintro (h | ⟨rfl, h⟩)
      · exact h
      · omega
  have hxn : x = n + 1 := by omega
  subst hxn
  refine ⟨fun p m c q m' c' h2 => ∃ (r out : List Int) (ch ch' : Chunk) (O : Nat → Int), m = List.length r ∧ m' = List.length out ∧ Own D 3 1 p c (r.map eI) ch ∧ Own D 3 1 q c' (out.map eI) ch' ∧ WS D n A B (needsOf L) (usersOf L) O w (ch :: ch' :: C) h2 ∧ r.Nodup ∧ Greedy L n out ∧
    (∀ k : Nat, 1 ≤ k → (k : Int) ≤ n → O k = (cRg L out k : Int)) ∧ ∀ k, k ∈ r ↔ Nx1 L n out k,
    fun _ _ _ _ m' _ _ => 64 - m', ⟨r, [], ch, [], fun k => ((needsOf L k).length : Int), rfl, rfl, own, .nil, by obtain ⟨gA, gB, a, b, S⟩ := W; exact ⟨gA, gB, a, b, S.perm (by simp)⟩, hnd, .nil, fun k _ _ => by rw [cR_nil], fun k => by rw [hr, nx1_iff]; simp; omega⟩, ?_⟩
  clear hgt hx1 hx2 hr hnd own W r ch
  rintro - h2 p m c q m' c' ⟨r, out, ch, ch', O, rfl, rfl, ownR, ownO, W, hnd, hG, hO, hr⟩
  refine cIf (fun hlt => ?_) fun hge => ?_
  rotate_left
  · have : r = [] := List.eq_nil_of_length_eq_zero (by omega)
    subst this
    exact ⟨_, _, out, ch', O, rfl, hG, fun k hk => by have := (hr k).2 hk; simp at this, ownO, W.drop⟩
  rcases r with _ | ⟨y, r⟩
  · simp at hlt
  have hmem : ∀ k ∈ y :: r, 1 ≤ k ∧ k ≤ n := fun k hk => by have := (hr k).1 hk; exact ⟨this.1, this.2.1⟩
  have hrl : (y :: r).length ≤ 64 := by have := nodup_len hnd hmem g0; omega
  have hol : out.length ≤ 64 := by have := nodup_len hG.nodup hG.mem g0; omega
  obtain ⟨gA, gB, sa, sb, S⟩ := W
  refine (min_spec ownR S.out (by simp at hrl; omega)).mono ?_
  rintro v h3 ⟨rfl, rfl⟩
  have W : WS D n A B (needsOf L) (usersOf L) O w (ch :: ch' :: C) _ := ⟨gA, gB, sa, sb, S⟩
  clear S sa sb gA gB
  have hx : minI y r ∈ y :: r := by rcases minI_mem r y with h | h <;> simp [h]
  have hle : ∀ j ∈ y :: r, minI y r ≤ j := by
    intro j hj
    rcases List.mem_cons.1 hj with rfl | hj
    · exact (minI_le r j).1
    · exact (minI_le r y).2 j hj
  generalize minI y r = x at *
  have hnx := (hr x).1 hx
  have hxb := hmem x hx
  refine ⟨_, rfl, W.new fun m1 h3 W => ?_⟩
  refine WS.sk (i := 0) W rfl rfl fun h4 W => ?_
  have W : WS D n A B (needsOf L) (usersOf L) O w ([(m1, .cells ⟨[.int .i64 x]⟩ 3 (0, 0))] :: ch :: ch' :: C) h4 := W
  have W := W.swap
  obtain ⟨gA, gB, sa, sb, S⟩ := W
  refine (deleteI_spec ownR S.out (by omega) (fun z => z == x) _ fun z hz ch h S => ?_).mono ?_
  · refine callV_1 (V237 _ _ _ _ (onPtr_s ⟨x, ?_, rfl, S⟩))
    exact (St.cellOf (T := 3) (f := (0, 0)) (l := [.int .i64 x]) S (by simp)).trans rfl
  rintro v h5 ⟨chR, rfl, ownR, S⟩
  have W : WS D n A B (needsOf L) (usersOf L) O w (chR :: [(m1, .cells ⟨[.int .i64 x]⟩ 3 (0, 0))] :: ch' :: C) h5 := ⟨gA, gB, sa, sb, S.inn⟩
  have W := W.swap2
  have rd : ∀ {h' : Heap} {X : List Chunk}, St D ([(m1, .cells ⟨[.int .i64 x]⟩ 3 (0, 0))] :: X) h' → hcell h' ⟨m1, 0, none⟩ = some (.int .i64 x) := fun S => S.ld0
  refine ⟨_, _, _, rfl, _, rd W.cc, W.swap.new fun m2 h6 W => ?_⟩
  refine WS.app ownO W (by omega) fun aO cO chO h7 ownO W => ⟨_, _, _, rfl, ?_⟩
  have W := W.swap
  have hxt : x.toNat < 65 := by omega
  have hxe : ((x.toNat : Nat) : Int) = x := by omega
  obtain ⟨-, aB, cB, eB⟩ := W.sl hxt
  have rb := W.b hxt
  rw [eB] at rb
  refine ⟨_, rd W.cc, onPtr_s ⟨by omega, by omega, _, _, _, by rw [Nat.mul_one, Nat.zero_add]; exact rb, ?_⟩⟩
  have hout : ∀ k ∈ out, ∀ p ∈ L, p.1 = k → p.2 ∈ out := hG.met
  have hG2 : Greedy L n (out ++ [x]) := .snoc hG hnx fun j hj => hle j ((hr j).2 hj)
  have hol2 : (out ++ [x]).length ≤ 64 := by have := nodup_len hG2.nodup hG2.mem g0; omega
  refine ⟨fun p m c z h => ∃ (t l r' : List Int) (chR : Chunk) (O' : Nat → Int), usersOf L x.toNat = t ++ l ∧ z = ((List.length t : Nat) : Int) ∧ m = List.length r' ∧ Own D 3 1 p c (r'.map eI) chR ∧ WS D n A B (needsOf L) (usersOf L) O' w (chR :: chO :: C) h ∧ r'.Nodup ∧
    (∀ k : Nat, 1 ≤ k → (k : Int) ≤ n → O' k = (cRg L out k : Int) - t.count (k : Int)) ∧ ∀ k, k ∈ r' ↔ 1 ≤ k ∧ k ≤ n ∧ k ∉ out ++ [x] ∧ O' k.toNat = 0,
    fun _ _ _ z _ => (usersOf L x.toNat).length - z.toNat, ⟨[], _, _, chR, O, rfl, rfl, rfl, ownR, W.drop.swap, ?_, fun k a b => by simpa using hO k a b, fun k => ?_⟩, ?_⟩
  · exact List.Pairwise.filter _ hnd
  · rw [keepI_mem, hr, nx1_iff]
    simp
    constructor
    · rintro ⟨⟨a, b, c, d⟩, e⟩
      have := hO k.toNat (by omega) (by omega)
      rw [show ((k.toNat : Nat) : Int) = k by omega] at this
      exact ⟨a, b, ⟨c, e⟩, by omega⟩
    · rintro ⟨a, b, ⟨c, e⟩, d⟩
      have := hO k.toNat (by omega) (by omega)
      rw [show ((k.toNat : Nat) : Int) = k by omega] at this
      exact ⟨⟨a, b, c, by omega⟩, e⟩
  clear rb W rd ownR
  rintro - h8 p m c z ⟨t, l, r', chR, O', hU, rfl, rfl, ownR, W, hnd', hO', hr'⟩
  have hUl := congrArg List.length hU
  rw [List.length_append] at hUl
  refine cIf (fun hlt => ?_) fun hge => ?_
  · rcases l with _ | ⟨u, l⟩
    · simp at hUl; omega
    have hum : u ∈ usersOf L x.toNat := by rw [hU]; simp
    obtain ⟨q, hq, rfl⟩ := List.mem_map.1 hum
    obtain ⟨hqL, hqx⟩ := List.mem_filter.1 hq
    have hqx : q.2 = x := by simpa [hxe] using hqx
    have hb := hp1 q hqL
    have hqt : q.1.toNat < 65 := by omega
    have hqe : ((q.1.toNat : Nat) : Int) = q.1 := by omega
    have hcnt : (usersOf L x.toNat).count q.1 = t.count q.1 + (l.count q.1 + 1) := by rw [hU, List.count_append, List.count_cons_self]
    have hc1 := cR_snoc (L := L) (k := q.1) hnx.2.2.1
    have hc2 := users_count (L := L) (k := q.1) (x := x.toNat)
    rw [hxe] at hc2
    have ho := hO' q.1.toNat (by omega) (by omega)
    rw [hqe] at ho
    have hpos : 1 ≤ O' q.1.toNat := by omega
    have hcl : cRg L out q.1 ≤ L.length := List.length_filter_le ..
    have hno : q.1 ∉ out ++ [x] := by
      intro hm
      have : cRg L out q.1 = 0 := by
        rcases List.mem_append.1 hm with hm | hm
        · exact cR_zero.2 (hout _ hm)
        · simp at hm; rw [hm]; exact (nx1_iff.1 hnx).2.2.2
      omega
    have hnr : q.1 ∉ r' := fun hm => by have := ((hr' _).1 hm).2.2.2; omega
    have hrl' : r'.length ≤ 64 := by have := nodup_len hnd' (fun k hk => ⟨((hr' k).1 hk).1, ((hr' k).1 hk).2.1⟩) g0; omega
    have hgu : (usersOf L x.toNat)[t.length]? = some q.1 := by rw [hU]; simp
    have rO := W.o hqt
    refine WS.user W hxt eB rfl hgu fun b o c0 => ⟨by omega, by omega, _, c0, onPtr_s ⟨by omega, by omega, _, by rw [Nat.mul_one, Nat.zero_add]; exact rO, onPtr_s ⟨by omega, by omega, ?_⟩⟩⟩
    rw [Nat.mul_one, Nat.zero_add, w64 (x := O' q.1.toNat - 1) (by omega) (by omega)]
    refine W.setO hqt fun h9 W => ?_
    have rO := W.o hqt
    rw [updF_self] at rO
    refine onPtr_s ⟨by omega, by omega, _, by rw [Nat.zero_add]; exact rO, ?_⟩
    have hul := usersOf_len L x.toNat
    rw [w64n (by omega)]
    have hOn : ∀ k : Nat, 1 ≤ k → (k : Int) ≤ n → updF O' q.1.toNat (O' q.1.toNat - 1) k = (cRg L out k : Int) - (t ++ [q.1]).count (k : Int) := by
      intro k a b
      have := hO' k a b
      unfold updF
      rw [List.count_append]
      by_cases hk : k = q.1.toNat
      · subst hk; rw [if_pos rfl, hqe, List.count_singleton_self]; omega
      · rw [if_neg hk, List.count_eq_zero_of_not_mem (a := (k : Int)) (l := [q.1]) (by simp; omega)]; omega
    have hme : (usersOf L x.toNat).length - Int.toNat ((t.length + 1 : Nat) : Int) < (usersOf L x.toNat).length - Int.toNat ((t.length : Nat) : Int) := by simp only [Int.toNat_natCast]; simp at hUl; omega
    have hrn : ∀ k, k ∉ r' ∨ k ∈ r' → (1 ≤ k ∧ k ≤ n ∧ k ∉ out ++ [x] ∧ updF O' q.1.toNat (O' q.1.toNat - 1) k.toNat = 0 ↔ k ∈ r' ∨ k = q.1 ∧ O' q.1.toNat - 1 = 0) := by
      intro k _
      rw [hr']
      unfold updF
      constructor
      · rintro ⟨a, b, c, d⟩
        by_cases hk : k = q.1
        · subst hk; rw [if_pos rfl] at d; exact .inr ⟨rfl, d⟩
        · rw [if_neg (by omega)] at d; exact .inl ⟨a, b, c, d⟩
      · rintro (⟨a, b, c, d⟩ | ⟨rfl, d⟩)
        · have : k ≠ q.1 := by rintro rfl; omega
          rw [if_neg (by omega)]; exact ⟨a, b, c, d⟩
        · rw [if_pos rfl]; exact ⟨hb.1, hb.2, hno, d⟩
    refine cEq (fun h0 => W.new fun m3 h10 W => WS.app ownR W (by omega) fun a' c' ch' h11 own W => ⟨_, _, _, rfl, ⟨t ++ [q.1], l, r' ++ [q.1], ch', _, by rw [hU]; simp, by simp, rfl, own, W, ?_, hOn, fun k => ?_⟩, hme⟩) fun h0 => ⟨⟨t ++ [q.1], l, r', chR, _, by rw [hU]; simp, by simp, rfl, ownR, W, hnd', hOn, fun k => ?_⟩, hme⟩
    · rw [List.nodup_append]
      refine ⟨hnd', by simp, fun a ha b hb e => ?_⟩
      simp at hb; subst hb; subst e
      exact hnr ha
    · rw [hrn k (Classical.em _).symm, List.mem_append, List.mem_singleton]
      constructor
      · rintro (h | rfl)
        · exact .inl h
        · exact .inr ⟨rfl, h0⟩
      · rintro (h | ⟨rfl, -⟩)
        · exact .inl h
        · exact .inr rfl
    · rw [hrn k (Classical.em _).symm]
      exact ⟨.inl, fun h => h.resolve_right fun e => h0 e.2⟩
  · have : l = [] := List.eq_nil_of_length_eq_zero (by omega)
    subst this
    rw [List.append_nil] at hU
    have hOe : ∀ k : Nat, 1 ≤ k → (k : Int) ≤ n → O' k = (cRg L (out ++ [x]) k : Int) := by
      intro k a b
      have h1 := hO' k a b
      have h2 := cR_snoc (L := L) (k := (k : Int)) hnx.2.2.1
      have h3 := users_count (L := L) (k := (k : Int)) (x := x.toNat)
      rw [hxe] at h3
      rw [hU] at h3
      omega
    refine ⟨⟨r', out ++ [x], chR, chO, O', rfl, rfl, ownR, ownO, W, hnd', hG2, hOe, fun k => ?_⟩, by simp at hol2 ⊢; omega⟩
    rw [hr', nx1_iff]
    constructor
    · rintro ⟨a, b, c, d⟩
      have := hOe k.toNat (by omega) (by omega)
      rw [show ((k.toNat : Nat) : Int) = k by omega] at this
      exact ⟨a, b, c, by omega⟩
    · rintro ⟨a, b, c, d⟩
      have := hOe k.toNat (by omega) (by omega)
      rw [show ((k.toNat : Nat) : Int) = k by omega] at this
      exact ⟨a, b, c, by omega⟩
end Go.Proofs.YtedpdommppfmdaaGreat

/- Nodes in order: graph.ordered, told in the symbolic engine's words. -/
set_option linter.unusedVariables false
namespace Go.Proofs.YtedpdommppfmdaaGreat
open Go Go.Proofs
attribute [local irreducible] appK copyK delK updK lookK makeK rangeK nextM entryM mapEntryK entryStK lenMapK clearK
variable {Q : V → Mem → Prop}
theorem PRun.fz {P : Program} {g : FuncId} {args : List V} {Q : V → Mem → Prop}
    (hh : ∀ (D : Fz) (C : List Chunk) (h : Heap) (vs : List Value), St D C h → RpL D [] vs args → Run P g vs h fun v h' => ∃ D', Le D D' ∧ St D' C h' ∧ ∃ x, Rp D' [] v x ∧ Q x []) : PRun P g [] args Q := by
  intro D ρ chs C h vs M F
  have h1 : ρ = [] := List.eq_nil_of_length_eq_zero M.len
  have h2 : chs = [] := List.eq_nil_of_length_eq_zero M.lch
  subst h1; subst h2
  refine (hh D C h vs (by simpa using M.st) F).mono ?_
  rintro v h' ⟨D', l, S, x, hx, hQ⟩
  exact ⟨D', [], [], x, [], l, ⟨rfl, rfl, fun i L ab ch h => (by simp at h), by simpa using S⟩, hx, hQ⟩
def tabU (N : Nat) (f : Nat → U) : List U := (List.range N).map f
theorem tabU_len (N : Nat) (f : Nat → U) : (tabU N f).length = N := by simp [tabU]
theorem tabU_get {N k : Nat} (f : Nat → U) (h : k < N) : (tabU N f)[k]? = some (f k) := by simp [tabU, h]
def webU (n : Int) (L : List Stk) (O : Nat → Int) : List U := .n n :: (tabU 65 (fun k => .l 1 ((needsOf L k).map eI)) ++ (tabU 65 (fun k => .n (O k)) ++ tabU 65 (fun k => .l 1 ((usersOf L k).map eI))))
theorem ug_get : ∀ (l : List U) (k : Nat), ug l k = l[k]?
  | [], k => by cases k <;> rfl
  | x :: l, 0 => rfl
  | x :: l, k + 1 => by simp only [ug, List.getElem?_cons_succ]; exact ug_get l k
theorem web_needs {n : Int} {L : List Stk} {O : Nat → Int} {k : Nat} (h : k < 65) : ug (webU n L O) (1 + k) = some (.l 1 ((needsOf L k).map eI)) := by
  rw [ug_get, webU, Nat.add_comm, List.getElem?_cons_succ, List.getElem?_append_left (by rw [tabU_len]; exact h), tabU_get _ h]
theorem rd_web {D : Fz} {n : Int} {A B : Nat → Value} {L : List Stk} {O : Nat → Int} {w : Nat} {T : TypeId} (hw : D w = some (.cells ⟨cellsW n A B O⟩ T (0, 0))) (ha : RdW D A (needsOf L)) (hb : RdW D B (usersOf L)) :
    Rd D (.pointer (some ⟨w, 0, none⟩)) (.p (some (webU n L O))) := by
  refine .pp w 0 _ T _ _ (fun j => ((cellsW n A B O)[j]?).getD undef) hw ?_ ?_
  · intro j u hu
    have hj : j < 196 := by have := (List.getElem?_eq_some_iff.1 hu).1; simpa [webU, tabU_len] using this
    have : j < (cellsW n A B O).length := by rw [W_len]; exact hj
    simp [this]
  · intro j u hu
    have hj : j < 196 := by have := (List.getElem?_eq_some_iff.1 hu).1; simpa [webU, tabU_len] using this
    rcases Nat.eq_zero_or_pos j with rfl | h0
    · simp [webU] at hu; subst hu
      exact .int _ _
    obtain ⟨j, rfl⟩ : ∃ i, j = i + 1 := ⟨j - 1, by omega⟩
    rw [webU, List.getElem?_cons_succ] at hu
    by_cases h1 : j < 65
    · rw [List.getElem?_append_left (by rw [tabU_len]; exact h1), tabU_get _ h1] at hu
      cases hu
      obtain ⟨a, c, e, r⟩ := ha j h1
      rw [Nat.add_comm, W_A h1, Option.getD_some, e]; exact r
    rw [List.getElem?_append_right (by rw [tabU_len]; omega), tabU_len] at hu
    by_cases h2 : j - 65 < 65
    · rw [List.getElem?_append_left (by rw [tabU_len]; exact h2), tabU_get _ h2] at hu
      cases hu
      rw [show j + 1 = 66 + (j - 65) by omega, W_O h2]
      exact .int _ _
    · have h3 : j - 65 - 65 < 65 := by omega
      rw [List.getElem?_append_right (by rw [tabU_len]; omega), tabU_len, tabU_get _ h3] at hu
      cases hu
      obtain ⟨a, c, e, r⟩ := hb _ h3
      rw [show j + 1 = 131 + (j - 65 - 65) by omega, W_B h3, Option.getD_some, e]; exact r
theorem ordered_S {n : Int} {L : List Stk} (k1 : ¬ gOK n L → Q (.t [.u (.p none), .l 1 [], .i 1]) [])
    (k2 : gOK n L → ∀ out : List Int, Greedy L n out → (∀ k, ¬ Nx1 L n out k) → (out.length : Int) < n → Q (.t [.u (.p none), .l 1 [], .i 9]) [])
    (k3 : gOK n L → ∀ (out : List Int) (O : Nat → Int), Greedy L n out → (∀ k, ¬ Nx1 L n out k) → ¬ (out.length : Int) < n → Q (.t [.u (.p (some (webU n L O))), .l 1 (out.map eI), .i 0]) []) :
    PRun Tryz.prog 196 [] [.i n, .l 2 (L.map eS)] Q := by
  refine .fz fun D C h vs S F => ?_
  obtain ⟨v, z, rfl, h1, h2⟩ := F.two
  rw [Rd.int_iff.1 h1.u_inv]
  have hx := h2.u_inv
  obtain ⟨a, c, rfl, -, -⟩ := hx.shape
  rw [List.length_map] at hx ⊢
  refine V196 _ _ _ _ _ _ ?_
  unfold VC196
  refine made_spec S hx (fun hg h' S => ⟨_, rfl, ⟨D, .refl _, S, _, .t (.cons (.u .pn) (.cons (.u (.nil _ _ _)) (.cons (.u (.int _ _)) .nil))), k1 hg⟩⟩) fun hg A B w h' W => ⟨_, rfl, ?_⟩
  rw [Option.isNone_some, cond_false]
  refine (order_spec hg W).mono ?_
  rintro v h2 ⟨aO, cO, out, ch, O, rfl, hG, hN, own, W⟩
  refine ⟨_, _, _, rfl, cIf (fun hlt => ⟨D, .refl _, W.cc.drop, _, .t (.cons (.u .pn) (.cons (.u (.nil _ _ _)) (.cons (.u (.int _ _)) .nil))), k2 hg out hG hN hlt⟩) fun hge => ?_⟩
  obtain ⟨gA, gB, sa, sb, S⟩ := W
  have S2 : St D ((webC n A B O w ++ ((row 65 gA).flatten ++ ((row 65 gB).flatten ++ ch))) :: C) h2 := S.perm (by simp)
  obtain ⟨D', l, hf, S3⟩ := S2.freeze
  have ra := sa.rd l fun p hp => hf p (by simp only [List.mem_append]; exact .inr (.inl hp))
  have rb := sb.rd l fun p hp => hf p (by simp only [List.mem_append]; exact .inr (.inr (.inl hp)))
  have ro := own.rd l fun p hp => hf p (by simp only [List.mem_append]; exact .inr (.inr (.inr hp)))
  rw [List.length_map] at ro
  exact ⟨D', l, S3, _, .t (.cons (.u (rd_web (hf (w, .cells ⟨cellsW n A B O⟩ 264 (0, 0)) (by simp)) ra rb)) (.cons (.u ro) (.cons (.u (.int _ _)) .nil))), k3 hg out O hG hN hge⟩
end Go.Proofs.YtedpdommppfmdaaGreat

/- What the functions do, written by program (psv.py) and held against the program by the kernel. -/
set_option linter.unusedVariables false
set_option maxRecDepth 100000
namespace Go.Proofs.YtedpdommppfmdaaGreat
open Go Go.Proofs
theorem mixT3 : Tryz.prog.follows .mixedOrders = true := by kernel_rfl
theorem S4 {c_0 : Int} {c_1 : List (List U)} {c_2 : Int} {c_3 : List (List U)} {c_4 : Int} {c_5 : Int} {c_6 : Int} {c_7 : Int} {Q : V → Mem → Prop} (hh : ∃ (I1 : Int → Prop) (f1 : Int → Nat), I1 0 ∧ (∀ x1 : Int, I1 x1 → (bif decide (x1 < (List.length c_1 : Int)) then (bif decide (x1 < 20) then elL c_1 x1 (fun r1 => dL 2 (ug r1 3) (fun l1 => (bif decide ((List.length l1 : Int) > 12) then Q (.u (.b false)) [] else I1 (IntKind.wrap .i64 (x1 + 1)) ∧ f1 (IntKind.wrap .i64 (x1 + 1)) < f1 x1))) else (bif decide ((List.length c_1 : Int) ≤ 20) then Q (.u (.b (decide ((List.length c_3 : Int) ≤ 12)))) [] else Q (.u (.b false)) [])) else (bif decide ((List.length c_1 : Int) ≤ 20) then Q (.u (.b (decide ((List.length c_3 : Int) ≤ 12)))) [] else Q (.u (.b false)) [])))) : PRun Tryz.prog 4 [] [.a [.i c_0, .l 7 c_1, .i c_2, .l 4 c_3, .i c_4, .i c_5, .i c_6, .i c_7]] Q :=
  funS2 mixT3 Tryz.func4 (by kernel_rfl) (H := ⟨[((4, 2, 1), ⟨[(3, .I)], []⟩)], [], [], [], [], false, 64, KN.no, false, SP.no⟩) (n := 2) (by kernel_rfl) hh
end Go.Proofs.YtedpdommppfmdaaGreat

/- What the functions do, written by program (psv.py) and held against the program by the kernel. -/
set_option linter.unusedVariables false
set_option maxRecDepth 100000
namespace Go.Proofs.YtedpdommppfmdaaGreat
open Go Go.Proofs
end Go.Proofs.YtedpdommppfmdaaGreat

/- A call of vault.whole, which defers, told by what it does. -/
set_option linter.unusedVariables false
namespace Go.Proofs.YtedpdommppfmdaaGreat
open Go Go.Proofs
variable {P : Program} {D D' : Fz} {ρ ρ' : List Loc} {m m' : Mem} {chs C : List Chunk} {h h' : Heap} {ro hr : List Nat}
theorem wl_cons {ops : Array Oper} {Q : Exit → Act → World → Prop} {o : Oper} {rest : List Oper} {a : Act} {w : World} {r : Option Nat} {n : Nat} (hg : o.guard = none) (hh : o.wpIn (FW r) n P a w (wpListIn (FW r) n P ops Q rest) Q) : wpListIn (FW r) n P ops Q (o :: rest) a w := by
  unfold wpListIn
  rw [if_pos (by simp [Region.wanted, hg])]
  exact hh
theorem put_frame {a : Act} {l : List Value} {d : Option Tmp} {v : Value} (h : a.tmps.toList = l) : (a.put d v).tmps.toList = lput l d v := by rw [put_list, h]
theorem wl_nil {ops : Array Oper} {Q : Exit → Act → World → Prop} {a : Act} {w : World} {r : Option Nat} {n : Nat} (hh : Q .normal a w) : wpListIn (FW r) n P ops Q [] a w := hh
theorem SAt.cget (M : SAt D ρ m chs C h) {b : Nat} {o : Obj} (hm : [(b, o)] ∈ C) : h[b]? = some o :=
  M.st.own (b, o) (List.mem_flatten.2 ⟨_, List.mem_append.2 (.inr hm), List.mem_singleton_self _⟩)
theorem w_run {o : Oper} {a : Act} {w : World} {next : Act → World → Prop} {Q : Exit → Act → World → Prop} {r : Option Nat} {n : Nat} {v : Value} (hd : isDefer o = false) (h : (execOp (ev a.tmps.toList) o).run P w = .ok (.value v) w) (hn : next (a.put o.dst v) w) : o.wpIn (FW r) n P a w next Q :=
  op_in0 hd (by unfold Oper.wp; rw [eval_eq, h]; exact hn)
theorem w_eff {o : Oper} {a : Act} {w : World} {next : Act → World → Prop} {Q : Exit → Act → World → Prop} {r : Option Nat} {n : Nat} {K : Value → Heap → Prop} (hd : isDefer o = false) (h : effK P ⟨[], [], []⟩ a.tmps.toList o w.heap K) (hn : ∀ v w', K v w'.heap → Same w w' → next (a.put o.dst v) w') : o.wpIn (FW r) n P a w next Q :=
  op_in0 hd (gen_soundR (SWp.r (eff_sound h)) (eval_eq a) rfl hn)
theorem w_load {T : TypeId} {z : Value} (hl : layOf P T = some (.one z)) {t : List Value} {x : Operand} {b : Nat} {v : Value} {E : TypeId} {w : World} {dst : Option Tmp} {ty : TypeId} {pos : String} {after : Array Edge} {guard : Option (Nat × Bool)} (hx : ev t x = .pointer (some ⟨b, 0, none⟩)) (hb : w.heap[b]? = some (.cells #[v] E (0, 0))) :
    (execOp (ev t) ⟨dst, .load T x, ty, pos, after, guard⟩).run P w = .ok (.value v) w := by
  have := run_ld1 (P := P) hl (b := b) (o := 0) (v := v) (w := w) (by rw [hcell_of hb]; rfl)
  simp [execOp, Instr.loadAt, Instr.sureAddr, hx, this]
theorem w_store {T : TypeId} {z : Value} (hl : layOf P T = some (.one z)) {a : Act} {w : World} {x y : Operand} {b : Nat} {u v : Value} {E : TypeId} {dst : Option Tmp} {ty : TypeId} {pos : String} {after : Array Edge} {guard : Option (Nat × Bool)} {C1 C2 : List Chunk} (hx : ev a.tmps.toList x = .pointer (some ⟨b, 0, none⟩)) (hy : ev a.tmps.toList y = v) (hs : single v = true)
    (M : SAt D ρ m chs (C1 ++ [(b, .cells #[u] E (0, 0))] :: C2) w.heap) {next : Act → World → Prop} {Q : Exit → Act → World → Prop} {r : Option Nat} {n : Nat} (hn : ∀ w', SAt D ρ m chs (C1 ++ [(b, .cells #[v] E (0, 0))] :: C2) w'.heap → Same w w' → next (a.put dst undef) w') :
    (⟨dst, .store T x y, ty, pos, after, guard⟩ : Oper).wpIn (FW r) n P a w next Q := by
  refine w_eff (K := fun v' h' => v' = undef ∧ SAt D ρ m chs (C1 ++ [(b, .cells #[v] E (0, 0))] :: C2) h') rfl ?_ ?_
  · simp only [effK, hx, hy, storeK, hl]
    have hq : ∀ v : Value, (([(b, Obj.cells #[v] E (0, 0))] :: (chs ++ (C1 ++ C2))).flatten).Perm (chs ++ (C1 ++ [(b, .cells #[v] E (0, 0))] :: C2)).flatten := fun v => by
      simp only [List.flatten_append, List.flatten_cons]
      exact (List.perm_append_comm_assoc _ _ _).trans ((List.perm_append_comm_assoc _ _ _).append_left _)
    have S := M.st.perm (hq u).symm
    have S' : St D ([(b, .cells ⟨[u]⟩ E (0, 0))] :: (chs ++ (C1 ++ C2))) w.heap := S
    exact onPtr_s (S'.sk0 (v := v) (o := 0) rfl hs fun h' S2 => ⟨trivial, M.mono (.refl D) (St.perm S2 (hq v))⟩)
  · rintro v' w' ⟨rfl, M'⟩ s
    exact hn w' M' s
theorem w_call {g : FuncId} {a : Act} {w : World} {x : Operand} {args : Array Operand} {tys : Array TypeId} {f c : Array Value} {vs : List Value} {dst : Option Tmp} {ty : TypeId} {pos : String} {after : Array Edge} {guard : Option (Nat × Bool)} {K : Value → Heap → Prop} {next : Act → World → Prop} {Q : Exit → Act → World → Prop} {r : Option Nat} {n : Nat}
    (hx : ev a.tmps.toList x = .func (.func g) f c) (hv : (f ++ args.map (ev a.tmps.toList) ++ c).toList = vs) (hrun : Run P g vs w.heap K) (hn : ∀ v w', K v w'.heap → Same w w' → next (a.put dst v) w') : (⟨dst, .call ⟨.value x, args, tys⟩, ty, pos, after, guard⟩ : Oper).wpIn (FW r) n P a w next Q := by
  subst hv
  refine op_in0 rfl (gen_soundR (K := K) (SWp.r ?_) (eval_eq a) rfl hn)
  simp only [execOp, resolve, hx, Deferred.ofValue]
  exact call_gen hrun.1 hrun
theorem w_defer {a : Act} {w : World} {x : Operand} {f : Fn} {p c : Array Value} {tys : Array TypeId} {d : Deferred} {dst : Option Tmp} {ty : TypeId} {pos : String} {after : Array Edge} {guard : Option (Nat × Bool)} {next : Act → World → Prop} {Q : Exit → Act → World → Prop} {n : Nat}
    (hx : ev a.tmps.toList x = .func f p c) (hd : ({ target := .fn f c, args := p } : Deferred) = d) (hn : next (({ a with defers := d :: a.defers } : Act).put dst undef) w) : (⟨dst, .defer ⟨.value x, #[], tys⟩, ty, pos, after, guard⟩ : Oper).wpIn (FW none) n P a w next Q := by
  refine ⟨fun _ _ => trivial, ?_⟩
  rw [show (FW none).round = none from rfl, Oper.semAt_none, eval_eq]
  simp only [execOp, resolve, hx, Deferred.ofValue]
  subst hd
  simp
  exact hn
def okE (e : V) (A : Prop) : Prop :=
  match e with
  | .u (.i .i64 (.ofNat 0)) => A
  | _ => False
def wholeF (ro : List Nat) (call : CallH) (G : FuncId) (args : List V) (m : Mem) (K : V → Mem → Prop) : Option Prop :=
  cond (Nat.beq G 89) (match args with
    | [.r b o, .f g a c] => some (call 109 [.r b o] m fun x m1 => cond (isPtr x) (call g (a ++ c) m1 (gcQ (some m.length) fun e m2 => okE e (K e m2))) False)
    | _ => some False) none
theorem okE_S {e : V} {A : Prop} (h : okE e A) : e = .u (.i .i64 0) ∧ A := by
  unfold okE at h
  split at h
  · exact ⟨rfl, h⟩
  · exact h.elim
structure WhP (P : Program) : Prop where
  fw : P.funcs[89]? = some Tryz.f89
  fc : P.funcs[157]? = some Tryz.f157
  nw : ((Tryz.f89).name == "runtime.NumGoroutine") = false
  nc : ((Tryz.f157).name == "runtime.NumGoroutine") = false
  tp : layOf P 47 = some (.one (.pointer none))
  te : layOf P 35 = some (.one (.int .i64 0))
  ze : (P.info? 35).bind (·.zero) = some (.int .i64 0)
  zp : (P.info? 47).bind (·.zero) = some (.pointer none)
  un : P.underlying 47 = some (.pointer 50)
theorem whp : WhP Tryz.prog := ⟨Tryz.func89, Tryz.func157, by kernel_rfl, by kernel_rfl, by kernel_rfl, by kernel_rfl, by kernel_rfl, by kernel_rfl, by kernel_rfl⟩
theorem whole_S (hP : WhP P) {X : Fz → List Loc → Prop} {call : CallH} (hX : Stab X) (hcall : CallOk P X ro hr call) {b o : Nat} {g : FuncId} {a c : List V} {KS : V → Mem → Prop} {vs : List Value}
    (M0 : m.length = ρ.length) (hs : call 109 [.r b o] m fun x m1 => cond (isPtr x) (call g (a ++ c) m1 (gcQ (some m.length) fun e m2 => okE e (KS e m2))) False) (xx : X D ρ) (M : SAt D ρ m chs C h) (ha : RpL D ρ vs [.r b o, .f g a c]) : Run P 89 vs h (PostE ro hr D ρ m chs C KS) := by
  cases ha with
  | cons h1 ha2 =>
  cases ha2 with
  | cons h2 ha3 =>
  cases ha3
  obtain ⟨L, hL, rfl⟩ := h1.r_inv
  obtain ⟨xs, ys, rfl, hxs, hys⟩ := h2.f_inv
  refine ⟨⟨Tryz.f89, hP.fw, hP.nw, rfl⟩, fun w hw => ?_⟩
  subst hw
  refine (callsIn_wide (n := 0)).1 (callsIn_of_wp_marks (F := FW none) hP.fw rfl trivial ?_)
  generalize hB : Value.pointer (some ⟨L.b, o, none⟩) = vB at *
  generalize hF : Value.func (.func g) xs.toArray ys.toArray = vF at *
  -- the frame
  have e0 : ((#[vB, vF] : Array Value) ++ Array.replicate ((Tryz.f89).ntmps - #[vB, vF].size) undef).toList = [vB, vF, undef, undef, undef, undef, undef, undef, undef, undef, undef, undef, undef] := rfl
  generalize h0 : ({ tmps := [vB, vF].toArray ++ Array.replicate ((Tryz.f89).ntmps - [vB, vF].toArray.size) undef, defers := [] } : Act) = a0
  have f0 : a0.tmps.toList = [vB, vF, undef, undef, undef, undef, undef, undef, undef, undef, undef, undef, undef] := by rw [← h0]; exact e0
  have d0 : a0.defers = [] := by rw [← h0]
  clear h0 e0
  have cB : vB.cells = #[vB] := by rw [← hB]; rfl
  -- region 0
  refine wpIn_seq (wpIn_region_list ?_)
  refine wl_cons rfl ?_
  refine w_eff (K := fun v h' => ∃ b2, v = .pointer (some ⟨b2, 0, none⟩) ∧ SAt D ρ m chs ([(b2, .cells #[vB] 47 (0, 0))] :: C) h') rfl ?_ ?_
  · simp only [effK, f0]
    exact ⟨_, rfl, by rw [show (ev [vB, vF, undef, undef, undef, undef, undef, undef, undef, undef, undef, undef, undef] (.tmp 0)).cells = #[vB] from cB]; exact M.cpush _⟩
  rintro _ w1 ⟨b2, rfl, M1⟩ s1
  have f1 := put_frame (d := some 2) (v := (.pointer (some ⟨b2, 0, none⟩))) f0
  have d1 : (a0.put (some 2) (.pointer (some ⟨b2, 0, none⟩))).defers = [] := by rw [put_defers', d0]
  generalize a0.put (some 2) (.pointer (some ⟨b2, 0, none⟩)) = a1 at f1 d1 ⊢
  refine wl_cons rfl ?_
  refine w_eff (K := fun v h' => ∃ b4, v = .pointer (some ⟨b4, 0, none⟩) ∧ SAt D ρ m chs ([(b4, .cells #[.int .i64 0] 35 (0, 0))] :: [(b2, .cells #[vB] 47 (0, 0))] :: C) h') rfl ?_ ?_
  · simp only [effK]
    rw [hP.ze]
    exact ⟨_, rfl, M1.cpush _⟩
  rintro _ w2 ⟨b4, rfl, M2⟩ s2
  have f2 := put_frame (d := some 4) (v := (.pointer (some ⟨b4, 0, none⟩))) f1
  have d2 : (a1.put (some 4) (.pointer (some ⟨b4, 0, none⟩))).defers = [] := by rw [put_defers', d1]
  generalize a1.put (some 4) (.pointer (some ⟨b4, 0, none⟩)) = a2 at f2 d2 ⊢
  refine wl_nil ?_
  -- region 1, the test
  refine wpIn_seq (wpIn_seq (wpIn_region_list (wl_cons rfl ?_)))
  refine w_run rfl (w_load hP.tp (b := b2) (v := vB) (E := 47) (by rw [f2]; rfl) (M2.cget (by simp))) ?_
  have f3 := put_frame (d := some 6) (v := vB) f2
  have d3 : (a2.put (some 6) vB).defers = [] := by rw [put_defers', d2]
  generalize a2.put (some 6) vB = a3 at f3 d3 ⊢
  refine wl_cons rfl ?_
  obtain ⟨vc, hvc, hrc⟩ := bin_run (P := P) (op := .eql) (T := 47) (x := .tmp 6) (y := .const (.pointer none)) (a := vB) (b := .pointer none) (K := fun v => v = .bool false) (by rw [← hB]; simp only [binK, hP.un]; rfl)
  subst hvc
  refine w_run (v := .bool false) rfl ?_ ?_
  · have e1 : ev a3.tmps.toList (.tmp 6) = vB := by rw [f3]; rfl
    have e2 : ev a3.tmps.toList (.const (.pointer none)) = .pointer none := rfl
    simp only [execOp, e1, e2]
    rw [Sem.run_bind, hrc]
    rfl
  have f4 := put_frame (d := some 7) (v := (.bool false)) f3
  have d4 : (a3.put (some 7) (.bool false)).defers = [] := by rw [put_defers', d3]
  generalize a3.put (some 7) (.bool false) = a4 at f4 d4 ⊢
  refine wl_nil ?_
  refine wpIn_cond_false (by rw [eval_eq, f4]; rfl) (wpIn_skip ?_)
  -- region 3: the clone
  refine wpIn_seq (wpIn_region_list (wl_cons rfl ?_))
  refine w_run rfl (w_load hP.tp (b := b2) (v := vB) (E := 47) (by rw [f4]; rfl) (M2.cget (by simp))) ?_
  have f5 := put_frame (d := some 8) (v := vB) f4
  have d5 : (a4.put (some 8) vB).defers = [] := by rw [put_defers', d4]
  generalize a4.put (some 8) vB = a5 at f5 d5 ⊢
  refine wl_cons rfl ?_
  have hrun1 := hcall (vs := [vB]) xx hs M2 (by rw [← hB]; exact .cons (.r hL) .nil)
  refine w_call (g := 109) (f := #[]) (c := #[]) (vs := [vB]) rfl (by rw [f5]; simp; rfl) hrun1 ?_
  rintro v9 w3 ⟨D1, ρ1, m1, c1, x1, n1, M3, hx1, hk1⟩ s3
  obtain ⟨hp1, hk1⟩ := cond_spec hk1
  obtain ⟨p9, rfl⟩ := hx1.ptr hp1
  have f6 := put_frame (d := some 9) (v := .pointer (some p9)) f5
  have d6 : (a5.put (some 9) (.pointer (some p9))).defers = [] := by rw [put_defers', d5]
  generalize a5.put (some 9) (.pointer (some p9)) = a6 at f6 d6 ⊢
  refine wl_cons rfl ?_
  refine w_eff (K := fun v h' => ∃ b5, v = .pointer (some ⟨b5, 0, none⟩) ∧ SAt D1 ρ1 m1 c1 ([(b5, .cells #[.pointer none] 47 (0, 0))] :: [(b4, .cells #[.int .i64 0] 35 (0, 0))] :: [(b2, .cells #[vB] 47 (0, 0))] :: C) h') rfl ?_ ?_
  · simp only [effK]
    rw [hP.zp]
    exact ⟨_, rfl, M3.cpush _⟩
  rintro _ w4 ⟨b5, rfl, M4⟩ s4
  have f7 := put_frame (d := some 5) (v := .pointer (some ⟨b5, 0, none⟩)) f6
  have d7 : (a6.put (some 5) (.pointer (some ⟨b5, 0, none⟩))).defers = [] := by rw [put_defers', d6]
  generalize a6.put (some 5) (.pointer (some ⟨b5, 0, none⟩)) = a7 at f7 d7 ⊢
  refine wl_cons rfl ?_
  refine w_store hP.tp (C1 := []) (b := b5) (u := .pointer none) (v := .pointer (some p9)) (by rw [f7]; rfl) (by rw [f7]; rfl) rfl M4 ?_
  intro w5 M5 s5
  have f8 := put_frame (d := none) (v := undef) f7
  have d8 : (a7.put none undef).defers = [] := by rw [put_defers', d7]
  generalize a7.put none undef = a8 at f8 d8 ⊢
  refine wl_nil ?_
  -- region 4: what is deferred
  refine wpIn_seq (wpIn_region_list (wl_cons rfl ?_))
  refine w_run (v := .func (.func 157) #[] #[.pointer (some ⟨b4, 0, none⟩), .pointer (some ⟨b5, 0, none⟩), .pointer (some ⟨b2, 0, none⟩)]) rfl ?_ ?_
  · simp only [execOp, Instr.makeFunc, f8, List.map_toArray, List.map_cons, List.map_nil]; rfl
  have f9 := put_frame (d := some 10) (v := .func (.func 157) #[] #[.pointer (some ⟨b4, 0, none⟩), .pointer (some ⟨b5, 0, none⟩), .pointer (some ⟨b2, 0, none⟩)]) f8
  have d9 : (a8.put (some 10) (.func (.func 157) #[] #[.pointer (some ⟨b4, 0, none⟩), .pointer (some ⟨b5, 0, none⟩), .pointer (some ⟨b2, 0, none⟩)])).defers = [] := by rw [put_defers', d8]
  generalize a8.put (some 10) (.func (.func 157) #[] #[.pointer (some ⟨b4, 0, none⟩), .pointer (some ⟨b5, 0, none⟩), .pointer (some ⟨b2, 0, none⟩)]) = a9 at f9 d9 ⊢
  refine wl_cons rfl ?_
  generalize hd : ({ target := .fn (.func 157) #[.pointer (some ⟨b4, 0, none⟩), .pointer (some ⟨b5, 0, none⟩), .pointer (some ⟨b2, 0, none⟩)], args := #[] } : Deferred) = dd
  refine w_defer (f := .func 157) (p := #[]) (c := #[.pointer (some ⟨b4, 0, none⟩), .pointer (some ⟨b5, 0, none⟩), .pointer (some ⟨b2, 0, none⟩)]) (d := dd) (by rw [f9]; rfl) hd ?_
  have f10 := put_frame (a := { a9 with defers := dd :: a9.defers }) (d := none) (v := undef) f9
  have d10 : (({ a9 with defers := dd :: a9.defers } : Act).put none undef).defers = [dd] := by rw [put_defers', d9]
  generalize ({ a9 with defers := dd :: a9.defers } : Act).put none undef = a10 at f10 d10 ⊢
  refine wl_nil ?_
  -- region 5: the call
  refine wpIn_seq (wpIn_region_list (wl_cons rfl ?_))
  refine w_run (v := vF) rfl ?_ ?_
  · simp only [execOp, f10]; rfl
  have f11 := put_frame (d := some 11) (v := vF) f10
  have d11 : (a10.put (some 11) vF).defers = [dd] := by rw [put_defers', d10]
  generalize a10.put (some 11) vF = a11 at f11 d11 ⊢
  refine wl_cons rfl ?_
  have hrun2 := hcall (hX.nx n1 xx) hk1 M5 (n1.rpL (hxs.app hys))
  refine w_call (g := g) (f := xs.toArray) (c := ys.toArray) (vs := xs ++ ys) (by rw [f11, ← hF]; rfl) (by simp) hrun2 ?_
  rintro v12 w6 ⟨D2, ρ2, m2, c2, x2, n2, M6, hx2, hk2⟩ s6
  obtain ⟨ρ3, m3, c3, t3, n3, M7, F7, hk3⟩ := canon_S M (K := fun t m2 => okE (vget t 0) (KS (vget t 0) m2) ∨ okE (wkV (vget t 0)) (KS (wkV (vget t 0)) m2)) hk2 (n1.trans n2) M6 (.cons hx2 .nil)
  have hk4 : vget t3 0 = .u (.i .i64 0) ∧ KS (.u (.i .i64 0)) m3 := by
    rcases hk3 with hk3 | hk3
    · obtain ⟨e, k⟩ := okE_S hk3; rw [e] at k; exact ⟨e, k⟩
    · obtain ⟨e, k⟩ := okE_S hk3
      rw [e] at k
      refine ⟨?_, k⟩
      revert e
      cases vget t3 0 <;> intro e <;> first | exact e | cases e
  have e12 : v12 = .int .i64 0 := by
    have hv : Rp D2 ρ3 v12 (vget t3 0) := by cases F7 with | cons h1 _ => exact h1
    rw [hk4.1] at hv
    cases hv with
    | u hr => cases hr; rfl
  subst e12
  have f12 := put_frame (d := some 12) (v := .int .i64 0) f11
  have d12 : (a11.put (some 12) (.int .i64 0)).defers = [dd] := by rw [put_defers', d11]
  generalize a11.put (some 12) (.int .i64 0) = a12 at f12 d12 ⊢
  refine wl_cons rfl ?_
  refine w_store hP.te (C1 := [_]) (b := b4) (u := .int .i64 0) (v := .int .i64 0) (by rw [f12]; rfl) (by rw [f12]; rfl) rfl M7 ?_
  intro w7 M8 s7
  have f13 := put_frame (d := none) (v := undef) f12
  have d13 : (a12.put none undef).defers = [dd] := by rw [put_defers', d12]
  generalize a12.put none undef = a13 at f13 d13 ⊢
  refine wl_nil (wpIn_ret ?_)
  -- the door
  show LeavesInM _ _ P _ a13.tmps _ a13.defers .returning w7
  rw [d13, ← hd]
  have ss := s1.trans (s2.trans (s3.trans (s4.trans (s5.trans (s6.trans s7)))))
  refine ⟨by simp, .inr ⟨(by intro h; cases h), _, _, _, _, rfl, run_callFunc ⟨_, hP.fc, hP.nc, rfl⟩ _ _, fun _ _ => trivial, (callsDIn_of_wp (R := fun e w' => e = .returned (.tuple #[]) ∧ w' = w7) hP.fc rfl trivial ?_).mono ?_⟩⟩
  · generalize h0 : ({ tmps := #[] ++ #[Value.pointer (some ⟨b4, 0, none⟩), .pointer (some ⟨b5, 0, none⟩), .pointer (some ⟨b2, 0, none⟩)] ++ Array.replicate ((Tryz.f157).ntmps - (#[] ++ #[Value.pointer (some ⟨b4, 0, none⟩), .pointer (some ⟨b5, 0, none⟩), .pointer (some ⟨b2, 0, none⟩)]).size) undef, defers := [] } : Act) = q0
    have g0 : q0.tmps.toList = [Value.pointer (some ⟨b4, 0, none⟩), .pointer (some ⟨b5, 0, none⟩), .pointer (some ⟨b2, 0, none⟩), undef, undef, undef, undef, undef, undef, undef] := by rw [← h0]; rfl
    have k0 : q0.defers = [] := by rw [← h0]
    clear h0
    refine wpIn_seq (wpIn_region_list (wl_cons rfl ?_))
    refine w_run rfl (w_load hP.te (b := b4) (v := .int .i64 0) (E := 35) (by rw [g0]; rfl) (M8.cget (by simp))) ?_
    have g1 := put_frame (d := some 3) (v := .int .i64 0) g0
    have k1 : (q0.put (some 3) (.int .i64 0)).defers = [] := by rw [put_defers', k0]
    generalize q0.put (some 3) (.int .i64 0) = q1 at g1 k1 ⊢
    refine wl_cons rfl ?_
    obtain ⟨vd, hvd, hrd⟩ := bin_run (P := P) (op := .neq) (T := 35) (x := .tmp 3) (y := .const (.int .i64 0)) (a := .int .i64 0) (b := .int .i64 0) (K := fun v => v = .bool false) rfl
    subst hvd
    refine w_run (v := .bool false) rfl ?_ ?_
    · have e1 : ev q1.tmps.toList (.tmp 3) = .int .i64 0 := by rw [g1]; rfl
      have e2 : ev q1.tmps.toList (.const (.int .i64 0)) = .int .i64 0 := rfl
      simp only [execOp, e1, e2]
      rw [Sem.run_bind, hrd]
      rfl
    have g2 := put_frame (d := some 4) (v := .bool false) g1
    have k2 : (q1.put (some 4) (.bool false)).defers = [] := by rw [put_defers', k1]
    generalize q1.put (some 4) (.bool false) = q2 at g2 k2 ⊢
    refine wl_nil ?_
    refine wpIn_cond_false (by rw [eval_eq, g2]; rfl) (wpIn_skip ?_)
    exact ⟨k2, .tuple #[], by simp [results], rfl, rfl⟩
  · rintro e u' w' ⟨rfl, rfl, rfl⟩
    have hb4 := M8.cget (b := b4) (o := .cells #[.int .i64 0] 35 (0, 0)) (by simp)
    obtain ⟨v, hv, hr⟩ := results_run (P := P) (fn := Tryz.f89) (tmps := a13.tmps) rfl (h := w'.heap) (R := fun v _ => v = .int .i64 0) (by
      rw [f13]
      show loadK P 35 (some ⟨b4, 0, none⟩) w'.heap _
      unfold loadK
      rw [hP.te]
      exact ⟨_, by rw [hcell_of hb4]; rfl, rfl⟩)
    subst hv
    refine ⟨_, hr w' rfl, _, rfl, ⟨D2, ρ3, m3, c3, .u (.i .i64 0), n3, M8.cdrop.cdrop.cdrop, .u (by constructor), hk4.2⟩, ss⟩
theorem wholeF_S (hP : WhP P) {X : Fz → List Loc → Prop} {call : CallH} (hX : Stab X) (hcall : CallOk P X ro hr call) {G : FuncId} {args : List V} {KS : V → Mem → Prop} {p : Prop} (hs : wholeF (hr ++ ro) call G args m KS = some p) (hp : p) {vs : List Value} (xx : X D ρ) (M : SAt D ρ m chs C h) (ha : RpL D ρ vs args) : Run P G vs h (PostE ro hr D ρ m chs C KS) := by
  unfold wholeF at hs
  cases hb : Nat.beq G 89 with
  | false => rw [hb] at hs; cases hs
  | true =>
    rw [hb] at hs
    have := Nat.eq_of_beq_eq_true hb
    subst this
    simp only [cond_true] at hs
    split at hs
    · simp only [Option.some.injEq] at hs
      subst hs
      exact whole_S hP hX hcall M.len.symm hp xx M ha
    · simp only [Option.some.injEq] at hs
      subst hs
      exact hp.elim
def spWhole (hP : WhP P) : SP P where
  f := wholeF
  ok := by
    intro ro hr X call hX hcall g args m KS p hs hp D ρ chs C h vs xx M ha
    exact wholeF_S hP hX hcall hs hp xx M ha
def okEE (r : V × Mem) : Option Out :=
  match r.1 with
  | .u (.i .i64 (.ofNat 0)) => some [(.u (.i .i64 (.ofNat 0)), r.2)]
  | _ => none
theorem okEE_ok {r : V × Mem} {l : Out} {K : V → Mem → Prop} (h : okEE r = some l) (hK : ∀ x ∈ l, K x.1 x.2) : okE r.1 (K r.1 r.2) := by
  obtain ⟨x, m⟩ := r
  unfold okEE at h
  dsimp only at h
  split at h
  · cases h
    exact hK (.u (.i .i64 (.ofNat 0)), m) (by simp)
  · cases h
noncomputable def wholeE (ro : List Nat) (callE : CallE) (G : FuncId) (args : List V) (m : Mem) : Option (Option Out) :=
  cond (Nat.beq G 89) (match args with
    | [.r b o, .f g a c] => some (bindS (callE 109 [.r b o] m) fun r1 => cond (isPtr r1.1) (bindS (callE g (rapp a c) r1.2) fun r2 => match gcVF (rlen m) r2 with
      | some r3 => okEE r3
      | none => none) none)
    | _ => some none) none
theorem wholeE_ok {callE : CallE} {call : CallH} (hc : CallEOk callE call) {g : FuncId} {args : List V} {rs : Out} {K : V → Mem → Prop} (h : wholeE ro callE g args m = some (some rs)) (hK : ∀ r ∈ rs, K r.1 r.2) : ∃ p, wholeF ro call g args m K = some p ∧ p := by
  unfold wholeE at h
  unfold wholeF
  cases hb : Nat.beq g 89 with
  | false => rw [hb] at h; cases h
  | true =>
    rw [hb] at h
    simp only [cond_true] at h ⊢
    split at h
    · rename_i b o g' a c
      refine ⟨_, rfl, ?_⟩
      simp only [Option.some.injEq] at h
      obtain ⟨l1, h1, h2⟩ := bindS_ok h
      refine hc h1 fun r1 hr1 => ?_
      obtain ⟨l2, h3, h4⟩ := h2 r1 hr1
      obtain ⟨h5, h6⟩ := condO h3
      rw [h5]
      simp only [cond_true]
      obtain ⟨l3, h7, h8⟩ := bindS_ok h6
      rw [rapp_eq] at h7
      refine hc h7 fun r2 hr2 => ?_
      obtain ⟨l4, h9, h10⟩ := h8 r2 hr2
      split at h9
      · rename_i r3 h11
        rw [rlen_eq] at h11
        exact gcVF_ok (K := fun e m2 => okE e (K e m2)) h11 (.inl (okEE_ok h9 fun x hx => hK x (h4 x (h10 x hx))))
      · cases h9
    · cases h
theorem wholeE_no {callE : CallE} {call : CallH} {g : FuncId} {args : List V} {K : V → Mem → Prop} (h : wholeE ro callE g args m = none) : wholeF ro call g args m K = none := by
  unfold wholeE at h
  unfold wholeF
  cases hb : Nat.beq g 89 with
  | false => rfl
  | true =>
    rw [hb] at h
    simp only [cond_true] at h
    split at h <;> cases h
noncomputable def speWhole (hP : WhP P) : SPE P where
  sp := spWhole hP
  e := wholeE
  ok := by
    intro ro callE call hc g args m rs K h hK
    exact wholeE_ok hc h hK
  no := by
    intro ro callE call g args m K h
    exact wholeE_no h
end Go.Proofs.YtedpdommppfmdaaGreat

/- Calls that are known (what they come to is shown elsewhere), within closed runs; runs piece by piece, with such calls. -/
set_option linter.unusedVariables false
namespace Go.Proofs.YtedpdommppfmdaaGreat
open Go Go.Proofs
variable {P : Program} {D D' : Fz} {ρ ρ' : List Loc} {m m' : Mem} {chs C : List Chunk} {h h' : Heap} {ro hr : List Nat}
def overL : Mem → List Nat → List AB → Mem
  | m, j :: js, a :: al => overL (ms m j a) js al
  | m, _, _ => m
theorem overL_len : ∀ (js : List Nat) (al : List AB) (m : Mem), (overL m js al).length = m.length
  | [], al, m => by cases al <;> rfl
  | j :: js, [], m => rfl
  | j :: js, a :: al, m => by simp only [overL]; rw [overL_len js al, ms_len]
theorem overL_S : ∀ {js : List Nat} {al : List AB} {cs : List Chunk} {m : Mem} {c : List Chunk}, js.length = al.length → cs.length = al.length → SAt D ρ m c (cs ++ C) h → js.Nodup →
    (∀ (i j : Nat) (a : AB) (ch : Chunk), js[i]? = some j → al[i]? = some a → cs[i]? = some ch → j < m.length ∧ ∃ L, ρ[j]? = some L ∧ Ent D ρ L a ch) →
    ∃ c', SAt D ρ (overL m js al) c' C h ∧ ∀ b, b ∉ js → c'[b]? = c[b]? ∧ mg (overL m js al) b = mg m b
  | [], [], cs, m, c, h1, h2, M, hn, he => by
    have : cs = [] := List.eq_nil_of_length_eq_zero (by simpa using h2)
    subst this
    exact ⟨c, M, fun b _ => ⟨rfl, rfl⟩⟩
  | j :: js, a :: al, ch :: cs, m, c, h1, h2, M, hn, he => by
    obtain ⟨hj, L, hL, hE⟩ := he 0 j a ch rfl rfl rfl
    have M2 : SAt D ρ (ms m j a) (c.set j ch) (cs ++ C) h := M.over hj hL hE
    have hn2 := List.nodup_cons.1 hn
    obtain ⟨c', M3, g⟩ := overL_S (js := js) (al := al) (cs := cs) (by simpa using h1) (by simpa using h2) M2 hn2.2 fun i j' a' ch' q1 q2 q3 => by
      obtain ⟨w1, w2⟩ := he (i + 1) j' a' ch' (by simpa using q1) (by simpa using q2) (by simpa using q3)
      exact ⟨by rw [ms_len]; exact w1, w2⟩
    refine ⟨c', M3, fun b hb => ?_⟩
    simp only [List.mem_cons, not_or] at hb
    obtain ⟨g1, g2⟩ := g b hb.2
    refine ⟨by rw [g1, List.getElem?_set_ne (Ne.symm hb.1)], ?_⟩
    simp only [overL]
    rw [g2, mg_ms_ne (Ne.symm hb.1)]
  | [], _ :: _, _, _, _, h1, _, _, _, _ => by simp at h1
  | _ :: _, [], _, _, _, h1, _, _, _, _ => by simp at h1
  | _ :: _, _ :: _, [], _, _, _, h2, _, _, _ => by simp at h2
def fK (ix : List Nat) (n i : Nat) : Nat := cond (Nat.ble (i + 1) ix.length) (nthN ix i) (n + (i - ix.length))
def backM (m : Mem) (ix : List Nat) (M' : Mem) : Mem :=
  overL (killM m ix ++ List.replicate (M'.length - ix.length) .x) (ix ++ List.range' m.length (M'.length - ix.length)) (M'.map (renA (fK ix m.length)))
theorem fK_lt {ix : List Nat} {n i b : Nat} (h : ix[i]? = some b) : fK ix n i = b := by
  have : i < ix.length := by
    rcases Nat.lt_or_ge i ix.length with h1 | h1
    · exact h1
    · rw [List.getElem?_eq_none h1] at h; cases h
  unfold fK
  rw [Nat.ble_eq_true_of_le this, cond_true]
  exact nthN_eq h
theorem fK_ge {ix : List Nat} {n k : Nat} : fK ix n (ix.length + k) = n + k := by
  unfold fK
  have : Nat.ble (ix.length + k + 1) ix.length = false := by
    cases e : Nat.ble (ix.length + k + 1) ix.length with
    | false => rfl
    | true => have := Nat.le_of_ble_eq_true e; omega
  rw [this, cond_false]; omega
def KnP (P : Program) (ro : List Nat) (g : FuncId) (args : List V) (m : Mem) (K : V → Mem → Prop) : Prop :=
  ∃ (ix : List Nat) (R : V) (M' : Mem), ix.Nodup ∧ (∀ b ∈ ix, b < m.length ∧ b ∉ ro) ∧ (∀ b ∈ ix, ∀ c ∈ refsA (mg m b), c ∈ ix) ∧ (∀ b ∈ refsL args, b ∈ ix) ∧
    PRun P g (subM m ix) (renL (fun b => posL ix b 0) args) (fun x m' => x = R ∧ m' = M') ∧ K (renV (fK ix m.length) R) (backM m ix M')
theorem xs_S : ∀ (k : Nat) {ρ : List Loc} {m : Mem} {chs C : List Chunk} {s : List Loc}, SAt D ρ m chs C h → s.length = k → SAt D (ρ ++ s) (m ++ List.replicate k .x) (chs ++ List.replicate k []) C h
  | 0, ρ, m, chs, C, s, M, hs => by
    have : s = [] := List.eq_nil_of_length_eq_zero hs
    subst this
    simpa using M
  | k + 1, ρ, m, chs, C, [], M, hs => by simp at hs
  | k + 1, ρ, m, chs, C, L :: s, M, hs => by
    have M1 : SAt D (ρ ++ [L]) (m ++ [.x]) (chs ++ [[]]) C h := SAt.push (ch := []) ⟨M.len, M.lch, M.ent, by
      have := M.st
      refine this.perm ?_
      simp⟩ .x
    have := xs_S k (s := s) M1 (by simpa using hs)
    simpa [List.append_assoc, List.replicate_succ] using this
theorem known_S {X : Fz → List Loc → Prop} {g : FuncId} {args : List V} {KS : V → Mem → Prop} (hs : KnP P (hr ++ ro) g args m KS) {vs : List Value} (M : SAt D ρ m chs C h) (ha : RpL D ρ vs args) : Run P g vs h (PostE ro hr D ρ m chs C KS) := by
  obtain ⟨ix, R, M', hnd, hb, hcl, har, hrun, hK⟩ := hs
  obtain ⟨c', cs, hcs, Mk, gk, Ms⟩ := M.sub2 hnd (fun b h => (hb b h).1) hcl
  have ra' := (ren_all (D := D) (ρ := ρ) (f := fun b => posL ix b 0) (ρ' := ix.map fun b => (ρ[b]?).getD ⟨0, none, 0, 0, none⟩)).2.1 ha fun b hb L hL => by
    obtain ⟨k, h4, h5⟩ := posL_get (k := 0) (har b hb)
    rw [h4, Nat.zero_add, List.getElem?_map, h5, Option.map_some, hL]; rfl
  refine (hrun D _ cs (c' ++ C) h vs Ms ra').mono ?_
  rintro v h' ⟨D2, s, cs2, x, m', le, Ms2, hv, rfl, rfl⟩
  -- al many blocks al places
  have l1 := Ms2.len
  have l2 := Ms2.lch
  simp only [List.length_append, List.length_map] at l1
  have hk : m'.length - ix.length = s.length := by omega
  have Mk2 : SAt D2 ρ (killM m ix) c' (cs2 ++ C) h' := ⟨Mk.len, Mk.lch, fun i L ab ch q1 q2 q3 => by have := (Mk.ent i L ab ch q1 q2 q3).mono le (s := []); rwa [List.append_nil] at this, Ms2.st.perm (by
    simp only [List.flatten_append]
    exact List.perm_append_comm_assoc _ _ _)⟩
  have Mx := xs_S (m'.length - ix.length) (s := s) Mk2 hk.symm
  have lm : (killM m ix).length = m.length := killM_len _ _
  have fin : ∀ {i : Nat} {L : Loc}, ((ix.map fun b => (ρ[b]?).getD ⟨0, none, 0, 0, none⟩) ++ s)[i]? = some L → (ρ ++ s)[fK ix m.length i]? = some L := by
    intro i L hL
    rcases Nat.lt_or_ge i ix.length with hi | hi
    · have e := List.getElem?_eq_getElem hi
      rw [List.getElem?_append_left (by simpa using hi), List.getElem?_map, e, Option.map_some] at hL
      rw [fK_lt e]
      have hlt : ix[i] < ρ.length := by rw [M.len]; exact (hb _ (List.getElem_mem hi)).1
      rw [List.getElem?_append_left hlt, List.getElem?_eq_getElem hlt]
      rw [List.getElem?_eq_getElem hlt, Option.getD_some] at hL
      exact hL
    · obtain ⟨k, rfl⟩ := Nat.exists_eq_add_of_le hi
      rw [List.getElem?_append_right (by simp)] at hL
      rw [fK_ge, List.getElem?_append_right (by rw [M.len]; omega)]
      have e1 : m.length + k - ρ.length = k := by rw [M.len]; omega
      have e2 : ix.length + k - (ix.map fun b => (ρ[b]?).getD ⟨0, none, 0, 0, none⟩).length = k := by simp
      rw [e2] at hL
      rw [e1]; exact hL
  have hjs : ∀ (i j : Nat), (ix ++ List.range' m.length (m'.length - ix.length))[i]? = some j → i < m'.length ∧ j = fK ix m.length i ∧ j < m.length + (m'.length - ix.length) := by
    intro i j hj
    rcases Nat.lt_or_ge i ix.length with hi | hi
    · rw [List.getElem?_append_left hi] at hj
      exact ⟨by omega, (fK_lt hj).symm, by have := (hb j (List.mem_of_getElem? hj)).1; omega⟩
    · obtain ⟨k, rfl⟩ := Nat.exists_eq_add_of_le hi
      rw [List.getElem?_append_right (by omega)] at hj
      have hk2 : ix.length + k - ix.length < m'.length - ix.length := by
        rcases Nat.lt_or_ge (ix.length + k - ix.length) (m'.length - ix.length) with q | q
        · exact q
        · rw [List.getElem?_eq_none (by simpa using q)] at hj; cases hj
      rw [List.getElem?_range' hk2] at hj
      simp only [Option.some.injEq] at hj
      rw [fK_ge]
      omega
  obtain ⟨c2, M3, g3⟩ := overL_S (js := ix ++ List.range' m.length (m'.length - ix.length)) (al := m'.map (renA (fK ix m.length))) (cs := cs2) (by simp; omega) (by simp [l2]) Mx (by
      refine List.nodup_append.2 ⟨hnd, List.nodup_range', ?_⟩
      intro a ha b hb2 e
      subst e
      have := (hb a ha).1
      have := List.mem_range'_1.1 hb2
      omega) fun i j a ch q1 q2 q3 => by
    obtain ⟨hi, rfl, hlt⟩ := hjs i j q1
    refine ⟨by simp only [List.length_append, List.length_replicate, lm]; exact hlt, ?_⟩
    simp only [List.getElem?_map] at q2
    obtain ⟨a0, ha0, rfl⟩ := Option.map_eq_some_iff.1 q2
    have hiL : i < ((ix.map fun b => (ρ[b]?).getD ⟨0, none, 0, 0, none⟩) ++ s).length := by simp; omega
    have e := List.getElem?_eq_getElem hiL
    exact ⟨_, fin e, (Ms2.ent i _ a0 ch e ha0 q3).ren fun b _ L hL => fin hL⟩
  have hv3 := (ren_all (D := D2) (f := fK ix m.length) (ρ' := ρ ++ s)).1 hv fun b _ L hL => fin hL
  refine ⟨D2, ρ ++ s, _, c2, _, ⟨le, ⟨s, rfl⟩, fun b h1 h2 => ?_, fun b h1 h2 => ?_, ?_⟩, M3, hv3, hK⟩
  · have hni : b ∉ ix := fun hbi => (hb b hbi).2 (List.mem_append.2 (.inl (inL_iff.1 h1)))
    have hnj : b ∉ ix ++ List.range' m.length (m'.length - ix.length) := by
      intro hh
      rcases List.mem_append.1 hh with q | q
      · exact hni q
      · have := List.mem_range'_1.1 q; omega
    rw [(g3 b hnj).1, List.getElem?_append_left (by rw [Mk.lch, lm]; exact h2), (gk b hni).1]
  · have hni : b ∉ ix := fun hbi => (hb b hbi).2 (inL_iff.1 h1)
    have hnj : b ∉ ix ++ List.range' m.length (m'.length - ix.length) := by
      intro hh
      rcases List.mem_append.1 hh with q | q
      · exact hni q
      · have := List.mem_range'_1.1 q; omega
    have := (g3 b hnj).2
    show mg (overL _ _ _) b = _
    rw [this, mg_app (by rw [lm]; exact h2), (gk b hni).2]
  · rw [overL_len]
    simp only [List.length_append, lm]; omega
def spKn (S : SP P) (Gs : List Nat) : SP P where
  f ro call g args m K := cond (inL Gs g) (some (KnP P ro g args m K)) (S.f ro call g args m K)
  ok := by
    intro ro hr X call hX hcall g args m KS p hs hp D ρ chs C h vs xx M ha
    cases hg : inL Gs g with
    | true =>
      rw [hg] at hs
      simp only [cond_true, Option.some.injEq] at hs
      subst hs
      exact known_S (X := X) hp M ha
    | false => rw [hg] at hs; exact S.ok hX hcall hs hp xx M ha
noncomputable def speKn (E : SPE P) (Gs : List Nat) : SPE P where
  sp := spKn E.sp Gs
  e ro callE g args m := cond (inL Gs g) (some none) (E.e ro callE g args m)
  ok := by
    intro ro callE call hc g args m rs K h hK
    cases hg : inL Gs g with
    | true => rw [hg] at h; cases h
    | false =>
      rw [hg] at h
      obtain ⟨p, h3, h4⟩ := E.ok hc h hK
      exact ⟨p, by show cond (inL Gs g) _ _ = _; rw [hg]; exact h3, h4⟩
  no := by
    intro ro callE call g args m K h
    cases hg : inL Gs g with
    | true => rw [hg] at h; cases h
    | false => rw [hg] at h; show cond (inL Gs g) _ _ = _; rw [hg]; exact E.no h
variable {E : SPE P} {inl : List Nat} {nl n fi : Nat}
structure Ev (P : Program) (E : SPE P) (inl : List Nat) (nl n fi : Nat) (c : Code) (t : Fr) (m : Mem) (rs : Ress) : Prop where
  go : ∀ {Q : PostS}, (∀ r ∈ rs, Q r.1 r.2.1.l r.2.2) → vcC P (HE E inl nl) (runS P (HE E inl nl) n) fi c .out [] [] Q t.l m
theorem Ev.code {c : Code} {t : Fr} {m : Mem} {rs : Ress} (h : CodeE P E inl nl n c t m = some rs) : Ev P E inl nl n fi c t m rs :=
  ⟨fun hQ => cCode_ok (selfE := runF P E inl nl n) (self := runS P (HE E inl nl) n) (runF_ok n) c (Y := .out) (Z := .out) trivial h hQ⟩
theorem Ev.seq {x y : Code} {t t1 : Fr} {m m1 : Mem} {rs : Ress} (hx : Ev P E inl nl n fi x t m [(.nrm, t1, m1)]) (hy : Ev P E inl nl n fi y t1 m1 rs) : Ev P E inl nl n fi (.seq x y) t m rs := by
  refine ⟨fun {Q} hQ => ?_⟩
  have fj : ∀ a b c, findH (HE E inl nl).jo a b c = none := fun a b c => rfl
  simp only [vcC, fj]
  exact hx.go fun r hr => by rw [List.mem_singleton.1 hr]; exact hy.go hQ
theorem Ev.pieces : ∀ {k : Nat} {c : Code} {t t1 : Fr} {m m1 : Mem} {rs : Ress}, evK P E inl nl n k c t m = some (t1, m1) → Ev P E inl nl n fi (dropK k c) t1 m1 rs → Ev P E inl nl n fi c t m rs
  | 0, c, t, t1, m, m1, rs, h, hy => by cases h; exact hy
  | k + 1, .seq x y, t, t1, m, m1, rs, h, hy => by
    simp only [evK] at h
    split at h
    · rename_i t2 m2 h2
      exact Ev.seq (Ev.code h2) (Ev.pieces h hy)
    · cases h
  | _ + 1, .skip, _, _, _, _, _, h, _ => by simp [evK] at h
  | _ + 1, .region .., _, _, _, _, _, h, _ => by simp [evK] at h
  | _ + 1, .cond .., _, _, _, _, _, h, _ => by simp [evK] at h
  | _ + 1, .block .., _, _, _, _, _, h, _ => by simp [evK] at h
  | _ + 1, .loop .., _, _, _, _, _, h, _ => by simp [evK] at h
  | _ + 1, .exit .., _, _, _, _, _, h, _ => by simp [evK] at h
  | _ + 1, .ret, _, _, _, _, _, h, _ => by simp [evK] at h
  | _ + 1, .scope .., _, _, _, _, _, h, _ => by simp [evK] at h
  | _ + 1, .label .., _, _, _, _, _, h, _ => by simp [evK] at h
  | _ + 1, .rangeFunc .., _, _, _, _, _, h, _ => by simp [evK] at h
  | _ + 1, .goto .., _, _, _, _, _, h, _ => by simp [evK] at h
theorem opsSY_app {vw : Bool} {call : CallH} {yh : Nat → List V → Mem → (V → Mem → Prop) → Prop} {ops : List Oper} {K : List V → Mem → Prop} : ∀ (l1 l2 : List Oper) (t : List V) (m : Mem),
    opsSY P vw ro call yh ops K (l1 ++ l2) t m = opsSY P vw ro call yh ops (fun t m => opsSY P vw ro call yh ops K l2 t m) l1 t m
  | [], l2, t, m => rfl
  | o :: l1, l2, t, m => by
    simp only [List.cons_append, opsSY, opsSY_app l1 l2]
theorem cond_brk {b : Bool} {x y : Code} {c : Operand} {t : Fr} {m : Mem} {rs : Ress} (hc : (cOpd c).e t = .u (.b b)) (h : Ev P E inl nl n fi (cond b x y) t m rs) : Ev P E inl nl n fi (.cond c x y) t m rs := by
  refine ⟨fun {Q} hQ => ?_⟩
  rw [cOpd_e] at hc
  simp only [vcC]
  rw [hc]
  have := h.go hQ
  cases b <;> exact this
end Go.Proofs.YtedpdommppfmdaaGreat

/- Runs piece by piece: rules that a program prints the use of. -/
set_option linter.unusedVariables false
namespace Go.Proofs.YtedpdommppfmdaaGreat
open Go Go.Proofs
variable {P : Program} {E S : SPE P} {inl Gs : List Nat} {nl n fi : Nat}
def cSeq : Code → Bool
  | .seq .. => true
  | _ => false
def cL : Code → Code
  | .seq x _ => x
  | c => c
def cR : Code → Code
  | .seq _ y => y
  | c => c
theorem cSeq_eq {c : Code} (h : cSeq c = true) : c = .seq (cL c) (cR c) := by cases c <;> first | rfl | cases h
theorem Ev.seqP {c : Code} {t t1 : Fr} {m m1 : Mem} {rs : Ress} (hs : cSeq c = true) (hx : Ev P E inl nl n fi (cL c) t m [(.nrm, t1, m1)]) (hy : Ev P E inl nl n fi (cR c) t1 m1 rs) : Ev P E inl nl n fi c t m rs := by
  rw [cSeq_eq hs]; exact Ev.seq hx hy
theorem Ev.seqE {c : Code} {t t1 : Fr} {m m1 : Mem} {e : Ex} (he : e ≠ .nrm) (hs : cSeq c = true) (hx : Ev P E inl nl n fi (cL c) t m [(e, t1, m1)]) : Ev P E inl nl n fi c t m [(e, t1, m1)] := by
  rw [cSeq_eq hs]
  refine ⟨fun {Q} hQ => ?_⟩
  have fj : ∀ a b c, findH (HE E inl nl).jo a b c = none := fun a b c => rfl
  simp only [vcC, fj]
  refine hx.go fun r hr => ?_
  rw [List.mem_singleton.1 hr]
  have := hQ _ (List.mem_singleton_self _)
  cases e with
  | nrm => exact absurd rfl he
  | ret => exact this
  | ext j => exact this
def cCond : Code → Bool
  | .cond .. => true
  | _ => false
def cO : Code → Operand
  | .cond c _ _ => c
  | _ => .tmp 0
def cT : Code → Code
  | .cond _ x _ => x
  | c => c
def cF : Code → Code
  | .cond _ _ y => y
  | c => c
theorem cCond_eq {c : Code} (h : cCond c = true) : c = .cond (cO c) (cT c) (cF c) := by cases c <;> first | rfl | cases h
theorem Ev.condT {c : Code} {t : Fr} {m : Mem} {rs : Ress} (hs : cCond c = true) (hc : (cOpd (cO c)).e t = .u (.b true)) (h : Ev P E inl nl n fi (cT c) t m rs) : Ev P E inl nl n fi c t m rs := by
  rw [cCond_eq hs]; exact cond_brk hc h
theorem Ev.condF {c : Code} {t : Fr} {m : Mem} {rs : Ress} (hs : cCond c = true) (hc : (cOpd (cO c)).e t = .u (.b false)) (h : Ev P E inl nl n fi (cF c) t m rs) : Ev P E inl nl n fi c t m rs := by
  rw [cCond_eq hs]; exact cond_brk hc h
def cBlk : Code → Bool
  | .block .. => true
  | _ => false
def cBd : Code → Code
  | .block _ c => c
  | c => c
def cId : Code → Nat
  | .block i _ => i
  | _ => 0
theorem cBlk_eq {c : Code} (h : cBlk c = true) : c = .block (cId c) (cBd c) := by cases c <;> first | rfl | cases h
def blkE (id : Nat) : Ex → Ex
  | .ext j => cond (Nat.beq j id) .nrm (.ext j)
  | e => e
theorem Ev.blockP {c : Code} {t t1 : Fr} {m m1 : Mem} {e e2 : Ex} (hs : cBlk c = true) (he : blkE (cId c) e = e2) (h : Ev P E inl nl n fi (cBd c) t m [(e, t1, m1)]) : Ev P E inl nl n fi c t m [(e2, t1, m1)] := by
  rw [cBlk_eq hs]
  refine ⟨fun {Q} hQ => ?_⟩
  simp only [vcC]
  refine h.go fun r hr => ?_
  rw [List.mem_singleton.1 hr]
  have := hQ _ (List.mem_singleton_self _)
  subst he
  cases e with
  | nrm => exact this
  | ret => exact this
  | ext j =>
    simp only [blockS]
    simp only [blkE] at this
    cases hb : Nat.beq j (cId c) with
    | true => rw [hb] at this; exact this
    | false => rw [hb] at this; exact this
def cReg : Code → Bool
  | .region _ _ false => true
  | _ => false
def cOp : Code → List Oper
  | .region _ ops _ => ops.toList
  | _ => []
def opAt : List Oper → Nat → Oper
  | o :: _, 0 => o
  | _ :: l, n + 1 => opAt l n
  | [], _ => ⟨none, .move (.tmp 0), 0, "", #[], none⟩
def opCall (o : Oper) : Bool :=
  match o.op with
  | .call ⟨.value _, _, _⟩ => true
  | _ => false
def opF (o : Oper) : Operand :=
  match o.op with
  | .call ⟨.value f, _, _⟩ => f
  | _ => .tmp 0
def opArgs (o : Oper) : List Operand :=
  match o.op with
  | .call ⟨.value _, l, _⟩ => l.toList
  | _ => []
theorem op_split : ∀ {l : List Oper} {k : Nat}, k < l.length → l = l.take k ++ opAt l k :: l.drop (k + 1)
  | [], k, h => by simp at h
  | o :: l, 0, h => rfl
  | o :: l, k + 1, h => by
    show o :: l = o :: (l.take k ++ opAt l k :: l.drop (k + 1))
    rw [← op_split (by simpa using h)]
def okIx (ix : List Nat) (args : List V) (m : Mem) : Bool := below m.length ix && allIn ix (refsL args) && allIn ix (ix.flatMap fun b => refsA (mg m b))
noncomputable abbrev regE (P : Program) (E : SPE P) (inl : List Nat) (nl n : Nat) (L l : List Oper) (t : Fr) (m : Mem) : Option OutsF := (cOps P L l).r [] (callF P E inl (runF P E inl nl n .out) [] []) ((YE.out).h [] []) t m
structure EvO (P : Program) (E : SPE P) (inl : List Nat) (nl n : Nat) (L l : List Oper) (t : Fr) (m : Mem) (outs : OutsF) : Prop where
  go : ∀ {K : List V → Mem → Prop}, (∀ x ∈ outs, K x.1.l x.2) → opsSY P true [] (callH P (HE E inl nl) (runS P (HE E inl nl) n .out) [] []) (YC.out.h [] []) L K l t.l m
theorem callOk0 : CallEOk (callF P E inl (runF P E inl nl n .out) [] []) (callH P (HE E inl nl) (runS P (HE E inl nl) n .out) [] []) :=
  callF_ok (n := nl) (selfE := runF P E inl nl n .out) (self := runS P (HE E inl nl) n .out) (runF_ok n (Y := .out) (Z := .out) trivial)
theorem yhOk0 : YhOk ((YE.out).h [] []) (YC.out.h [] []) := YE.Ok.yh (Y := .out) (Z := .out) trivial
theorem EvO.ops {L l : List Oper} {t : Fr} {m : Mem} {outs : OutsF} (h : regE P E inl nl n L l t m = some outs) : EvO P E inl nl n L l t m outs :=
  ⟨fun hK => cOps_ok callOk0 yhOk0 h hK⟩
theorem Ev.reg {c : Code} {t : Fr} {m : Mem} {outs : OutsF} (hr : cReg c = true) (hd : ((cOp c).all fun o => !isDefer o) = true) (h : EvO P E inl nl n (cOp c) (cOp c) t m outs) : Ev P E inl nl n fi c t m (nrmR outs) := by
  obtain ⟨id, ops, rfl⟩ : ∃ id ops, c = .region id ops false := by cases c <;> first | (rename_i d; cases d <;> first | exact ⟨_, _, rfl⟩ | cases hr) | cases hr
  refine ⟨fun {Q} hQ => ?_⟩
  simp only [cOp] at *
  simp only [vcC]
  rw [hd]
  simp only [cond_true, cond_false]
  exact h.go (K := Q .nrm) fun x hx => hQ (.nrm, x.1, x.2) (List.mem_map.2 ⟨x, hx, rfl⟩)
theorem EvO.op {L l : List Oper} {k : Nat} {t t1 t2 : Fr} {m m1 : Mem} {outs : OutsF} {v : V} (hk : Nat.ble (k + 1) l.length = true)
    (h1 : regE P E inl nl n L (l.take k) t m = some [(t1, m1)]) (hg : (cG L (opAt l k)).g t1 = some (true, t2))
    (hy : yieldOf t2.l (opAt l k) = none) (hq : quietB (opAt l k) = true) (hv : (cQ P (opAt l k)).q t2 m1 = some v)
    (h2 : EvO P E inl nl n L (l.drop (k + 1)) ((cPut (opAt l k).dst).p t2 v) m1 outs) : EvO P E inl nl n L l t m outs := by
  refine ⟨fun {K} hK => ?_⟩
  have hl := op_split (Nat.le_of_ble_eq_true hk)
  suffices hs : opsSY P true [] (callH P (HE E inl nl) (runS P (HE E inl nl) n .out) [] []) (YC.out.h [] []) L K (l.take k ++ opAt l k :: l.drop (k + 1)) t.l m by rw [← hl] at hs; exact hs
  rw [opsSY_app]
  refine cOps_ok callOk0 yhOk0 h1 fun x hx => ?_
  rw [List.mem_singleton.1 hx]
  dsimp only
  simp only [opsSY]
  refine guardE_ok (cG_some hg) ?_
  simp only [cond_true]
  rw [hy]
  dsimp only
  unfold opS
  simp only [cond_true, hq]
  rw [cQ_eq] at hv
  have := h2.go hK
  rw [cPut_eq] at this
  exact quietE_ok (K := fun v => opsSY P true [] (callH P (HE E inl nl) (runS P (HE E inl nl) n .out) [] []) (YC.out.h [] []) L K (l.drop (k + 1)) (vput t2.l (opAt l k).dst v) m1) hv this
theorem EvO.not {L l : List Oper} {k : Nat} {t t1 t2 : Fr} {m m1 : Mem} {outs : OutsF} (hk : Nat.ble (k + 1) l.length = true)
    (h1 : regE P E inl nl n L (l.take k) t m = some [(t1, m1)]) (hg : (cG L (opAt l k)).g t1 = some (false, t2))
    (h2 : EvO P E inl nl n L (l.drop (k + 1)) ((cPut (opAt l k).dst).p t2 (.t [])) m1 outs) : EvO P E inl nl n L l t m outs := by
  refine ⟨fun {K} hK => ?_⟩
  have hl := op_split (Nat.le_of_ble_eq_true hk)
  suffices hs : opsSY P true [] (callH P (HE E inl nl) (runS P (HE E inl nl) n .out) [] []) (YC.out.h [] []) L K (l.take k ++ opAt l k :: l.drop (k + 1)) t.l m by rw [← hl] at hs; exact hs
  rw [opsSY_app]
  refine cOps_ok callOk0 yhOk0 h1 fun x hx => ?_
  rw [List.mem_singleton.1 hx]
  dsimp only
  simp only [opsSY]
  refine guardE_ok (cG_some hg) ?_
  simp only [cond_false]
  have := h2.go hK
  rw [cPut_eq] at this
  exact this
theorem EvO.call {L l : List Oper} {k : Nat} {t t1 t2 : Fr} {m m1 M' ms : Mem} {outs : OutsF} {args al a cc : List V} {g : FuncId} {R : V} (ix : List Nat) (hk : Nat.ble (k + 1) l.length = true)
    (h1 : regE P (speKn S Gs) inl nl n L (l.take k) t m = some [(t1, m1)]) (hg : (cG L (opAt l k)).g t1 = some (true, t2))
    (hc : opCall (opAt l k) = true) (hf : (cOpd (opF (opAt l k))).e t2 = .f g a cc) (hin : inL Gs g = true) (hargs : a ++ evA t2 (cOpds (opArgs (opAt l k))) ++ cc = args)
    (hn : ix.Nodup) (hix : okIx ix args m1 = true) (hm : subM m1 ix = ms) (ha : renL (fun b => posL ix b 0) args = al) (hp : PRun P g ms al fun x m' => x = R ∧ m' = M')
    (h2 : EvO P (speKn S Gs) inl nl n L (l.drop (k + 1)) ((cPut (opAt l k).dst).p t2 (renV (fK ix m1.length) R)) (backM m1 ix M') outs) : EvO P (speKn S Gs) inl nl n L l t m outs := by
  refine ⟨fun {K} hK => ?_⟩
  have hl := op_split (Nat.le_of_ble_eq_true hk)
  suffices hs : opsSY P true [] (callH P (HE (speKn S Gs) inl nl) (runS P (HE (speKn S Gs) inl nl) n .out) [] []) (YC.out.h [] []) L K (l.take k ++ opAt l k :: l.drop (k + 1)) t.l m by rw [← hl] at hs; exact hs
  rw [opsSY_app]
  refine cOps_ok callOk0 yhOk0 h1 fun x hx => ?_
  rw [List.mem_singleton.1 hx]
  dsimp only
  simp only [opsSY]
  refine guardE_ok (cG_some hg) ?_
  simp only [cond_true]
  generalize hoo : opAt l k = o at *
  obtain ⟨dst, op, ty, pos, after, guard⟩ := o
  obtain ⟨f, al', tys, rfl⟩ : ∃ f al' tys, op = .call ⟨.value f, al', tys⟩ := by
    unfold opCall at hc
    split at hc
    · rename_i f l tys he; exact ⟨f, l, tys, he⟩
    · cases hc
  have hf : evS t2.l f = .f g a cc := by rw [← cOpd_e]; exact hf
  have hargs : a ++ al'.toList.map (evS t2.l) ++ cc = args := by rw [← evA_eq]; exact hargs
  have hy : yieldOf t2.l (⟨dst, .call ⟨.value f, al', tys⟩, ty, pos, after, guard⟩ : Oper) = none := by unfold yieldOf; simp only [hf]
  rw [hy]
  dsimp only
  unfold opS
  have hq : quietB (⟨dst, .call ⟨.value f, al', tys⟩, ty, pos, after, guard⟩ : Oper) = false := rfl
  simp only [cond_true, hq, cond_false]
  unfold effS
  simp only [hf]
  rw [hargs]
  unfold callH
  have e : (HE (speKn S Gs) inl nl).sp.f ([] ++ []) (callH0 P (HE (speKn S Gs) inl nl) (runS P (HE (speKn S Gs) inl nl) n .out) [] []) g args m1 = fun K => some (KnP P [] g args m1 K) := by
    funext K
    show cond (inL Gs g) _ _ = _
    rw [hin]; rfl
  rw [e]
  subst hm ha
  simp only [okIx, Bool.and_eq_true] at hix
  refine ⟨ix, R, M', hn, fun b hb => ⟨below_iff hix.1.1 b hb, by simp⟩, fun b hb c hc => allIn_iff hix.2 c (List.mem_flatMap.2 ⟨b, hb, hc⟩), allIn_iff hix.1.2, hp, ?_⟩
  have := h2.go hK
  rw [cPut_eq] at this
  exact this
noncomputable def endKT (P : Program) (fn : Func) (m : Mem) (r : Res) : Option (V × Mem) :=
  match retF P fn r with
  | some x => endE false m.length x
  | none => none
theorem Ev.runT (hmix : P.follows .mixedOrders = true) {f : FuncId} {fn : Func} (hf : P.funcs[f]? = some fn) (hn : (fn.name == "runtime.NumGoroutine") = false) {c : Code} (hc : fn.body = some c) {m : Mem} {args : List V} {r : Res} (h : Ev P E inl nl n f c (frameF P fn args) m [r]) {y : V × Mem} (he : endKT P fn m r = some y) : PRun P f m args fun x m' => x = y.1 ∧ m' = y.2 := by
  refine funSG hmix (H := HE E inl nl) (n := n + 1) (gc := true) hf hn hc ?_
  show vcC P (HE E inl nl) (runS P (HE E inl nl) n) f c .out [] [] _ _ m
  rw [← frameF_l]
  refine h.go fun x hx => ?_
  rw [List.mem_singleton.1 hx]
  unfold endKT at he
  split at he
  · rename_i z hz
    exact retF_ok hz (endE_ok he ⟨rfl, rfl⟩)
  · cases he
end Go.Proofs.YtedpdommppfmdaaGreat

/- Runs piece by piece: regions that draw their order, with calls that are known. -/
set_option linter.unusedVariables false
namespace Go.Proofs.YtedpdommppfmdaaGreat
open Go Go.Proofs
variable {P : Program} {E S : SPE P} {inl Gs : List Nat} {nl n fi : Nat}
abbrev DSt := Nat × List Nat × List (Nat × List Nat) × Fr × Mem
noncomputable def dr1 (P : Program) (E : SPE P) (inl : List Nat) (nl n : Nat) (ops : List Oper) (s : DSt) : Option DSt :=
  match s with
  | (0, _) => none
  | (k + 1, done, held, t, m) => match nextQ ops done with
    | some i => (match ops[i]? with
      | none => none
      | some o => match (cG ops o).g t with
        | some (true, t') => (match qsF P o t' m with
          | some [v] => some (k, i :: done, cond (pureOp o) held ((i, srcF t' o) :: held), (cPut o.dst).p t' v, m)
          | _ => none)
        | some (false, t') => some (k, i :: done, held, (cPut o.dst).p t' (.t []), m)
        | none => none)
    | none => (match readies ops done with
      | [i] => (match ops[i]? with
        | none => none
        | some o => match (cG ops o).g t with
          | some (true, t') => (match esF P o (heldB ops i held ++ [] ++ []) (callF P E inl (runF P E inl nl n .out) [] (heldB ops i held ++ [])) t' m with
            | some [r] => some (k, i :: done, held, (cPut o.dst).p t' r.1, r.2)
            | _ => none)
          | some (false, t') => some (k, i :: done, held, (cPut o.dst).p t' (.t []), m)
          | none => none)
      | _ => none)
noncomputable def drK (P : Program) (E : SPE P) (inl : List Nat) (nl n : Nat) (ops : List Oper) : Nat → DSt → Option DSt
  | 0, s => some s
  | j + 1, s => match dr1 P E inl nl n ops s with
    | some s' => drK P E inl nl n ops j s'
    | none => none
structure EvD (P : Program) (E : SPE P) (inl : List Nat) (nl n : Nat) (ops : List Oper) (s : DSt) (outs : OutsF) : Prop where
  go : ∀ {K : List V → Mem → Prop}, (∀ x ∈ outs, K x.1.l x.2) → drawS P true [] [] (callH P (HE E inl nl) (runS P (HE E inl nl) n .out) []) ops K s.1 s.2.1 s.2.2.1 s.2.2.2.1.l s.2.2.2.2
theorem callOkH {hr : List Nat} : CallEOk (callF P E inl (runF P E inl nl n .out) [] hr) (callH P (HE E inl nl) (runS P (HE E inl nl) n .out) [] hr) :=
  callF_ok (n := nl) (selfE := runF P E inl nl n .out) (self := runS P (HE E inl nl) n .out) (runF_ok n (Y := .out) (Z := .out) trivial)
theorem EvD.code {ops : List Oper} {k : Nat} {done : List Nat} {held : List (Nat × List Nat)} {t : Fr} {m : Mem} {outs : OutsF} (h : (cDraw P ops k done).r [] [] (callF P E inl (runF P E inl nl n .out) []) held t m = some outs) : EvD P E inl nl n ops (k, done, held, t, m) outs :=
  ⟨fun hK => cDraw_ok (callE := callF P E inl (runF P E inl nl n .out) []) (fun h => callOkH (hr := h)) h hK⟩
theorem EvD.step {ops : List Oper} {s s' : DSt} {outs : OutsF} (h : dr1 P E inl nl n ops s = some s') (h2 : EvD P E inl nl n ops s' outs) : EvD P E inl nl n ops s outs := by
  obtain ⟨k, done, held, t, m⟩ := s
  cases k with
  | zero => cases h
  | succ k =>
    refine ⟨fun {K} hK => ?_⟩
    unfold dr1 at h
    dsimp only at h ⊢
    simp only [drawS]
    split at h
    · rename_i i hq
      rw [hq]
      dsimp only
      split at h
      · cases h
      · rename_i o ho
        rw [ho]
        dsimp only
        split at h
        · rename_i t' hg
          split at h
          · rename_i v hv
            cases h
            refine guardE_ok (cG_some hg) ?_
            simp only [cond_true]
            rw [qsF_eq] at hv
            refine quietsE_ok hv fun v' hv' => ?_
            rw [List.mem_singleton.1 hv']
            have := h2.go hK
            dsimp only at this
            rw [cPut_eq, srcF_eq] at this
            exact this
          · cases h
        · rename_i t' hg
          cases h
          have := h2.go hK
          dsimp only at this
          rw [cPut_eq] at this
          exact guardE_ok (cG_some hg) this
        · cases h
    · rename_i hq
      rw [hq]
      dsimp only
      split at h
      · rename_i i hr
        rw [hr]
        dsimp only [conjL]
        split at h
        · cases h
        · rename_i o ho
          rw [ho]
          dsimp only
          split at h
          · rename_i t' hg
            split at h
            · rename_i r hv
              cases h
              refine guardE_ok (cG_some hg) ?_
              simp only [cond_true]
              rw [esF_eq] at hv
              refine effE_ok callOkH hv fun r' hr' => ?_
              rw [List.mem_singleton.1 hr']
              have := h2.go hK
              dsimp only at this
              rw [cPut_eq] at this
              exact this
            · cases h
          · rename_i t' hg
            cases h
            have := h2.go hK
            dsimp only at this
            rw [cPut_eq] at this
            exact guardE_ok (cG_some hg) this
          · cases h
      · cases h
theorem EvD.steps {ops : List Oper} {outs : OutsF} : ∀ {j : Nat} {s s' : DSt}, drK P E inl nl n ops j s = some s' → EvD P E inl nl n ops s' outs → EvD P E inl nl n ops s outs
  | 0, s, s', h, h2 => by cases h; exact h2
  | j + 1, s, s', h, h2 => by
    simp only [drK] at h
    split at h
    · rename_i s1 h1
      exact EvD.step h1 (EvD.steps h h2)
    · cases h
noncomputable def drE (P : Program) (E : SPE P) (inl : List Nat) (nl n : Nat) (ops : List Oper) (i : Nat) (s : DSt) : Option DSt :=
  match s with
  | (0, _) => none
  | (k + 1, done, held, t, m) => (match ops[i]? with
    | none => none
    | some o => match (cG ops o).g t with
      | some (true, t') => (match esF P o (heldB ops i held ++ [] ++ []) (callF P E inl (runF P E inl nl n .out) [] (heldB ops i held ++ [])) t' m with
        | some [r] => some (k, i :: done, held, (cPut o.dst).p t' r.1, r.2)
        | _ => none)
      | some (false, t') => some (k, i :: done, held, (cPut o.dst).p t' (.t []), m)
      | none => none)
theorem drE_ok {ops : List Oper} {i k : Nat} {done : List Nat} {held : List (Nat × List Nat)} {t : Fr} {m : Mem} {s' : DSt} {outs : OutsF} (h : drE P E inl nl n ops i (k + 1, done, held, t, m) = some s') (h2 : EvD P E inl nl n ops s' outs) {K : List V → Mem → Prop} (hK : ∀ x ∈ outs, K x.1.l x.2) :
    (match ops[i]? with
      | none => False
      | some o => guardS ops o t.l
          (fun t => effS P true (heldB ops i held ++ [] ++ []) (callH P (HE E inl nl) (runS P (HE E inl nl) n .out) [] (heldB ops i held ++ [])) t m o fun v m' => drawS P true [] [] (callH P (HE E inl nl) (runS P (HE E inl nl) n .out) []) ops K k (i :: done) held (vput t o.dst v) m')
          (fun t => drawS P true [] [] (callH P (HE E inl nl) (runS P (HE E inl nl) n .out) []) ops K k (i :: done) held (vput t o.dst (.t [])) m)) := by
  unfold drE at h
  dsimp only at h
  split at h
  · cases h
  · rename_i o ho
    split at h
    · rename_i t' hg
      split at h
      · rename_i r hv
        cases h
        refine guardE_ok (cG_some hg) ?_
        simp only [cond_true]
        rw [esF_eq] at hv
        refine effE_ok callOkH hv fun r' hr' => ?_
        rw [List.mem_singleton.1 hr']
        have := h2.go hK
        dsimp only at this
        rw [cPut_eq] at this
        exact this
      · cases h
    · rename_i t' hg
      cases h
      have := h2.go hK
      dsimp only at this
      rw [cPut_eq] at this
      exact guardE_ok (cG_some hg) this
    · cases h
structure EvE (P : Program) (E : SPE P) (inl : List Nat) (nl n : Nat) (ops : List Oper) (i k : Nat) (done : List Nat) (held : List (Nat × List Nat)) (t : Fr) (m : Mem) (outs : OutsF) : Prop where
  go : ∀ {K : List V → Mem → Prop}, (∀ x ∈ outs, K x.1.l x.2) →
    (match ops[i]? with
      | none => False
      | some o => guardS ops o t.l
          (fun t => effS P true (heldB ops i held ++ [] ++ []) (callH P (HE E inl nl) (runS P (HE E inl nl) n .out) [] (heldB ops i held ++ [])) t m o fun v m' => drawS P true [] [] (callH P (HE E inl nl) (runS P (HE E inl nl) n .out) []) ops K k (i :: done) held (vput t o.dst v) m')
          (fun t => drawS P true [] [] (callH P (HE E inl nl) (runS P (HE E inl nl) n .out) []) ops K k (i :: done) held (vput t o.dst (.t [])) m))
theorem EvE.step {ops : List Oper} {i k : Nat} {done : List Nat} {held : List (Nat × List Nat)} {t : Fr} {m : Mem} {s' : DSt} {outs : OutsF} (h : drE P E inl nl n ops i (k + 1, done, held, t, m) = some s') (h2 : EvD P E inl nl n ops s' outs) : EvE P E inl nl n ops i k done held t m outs :=
  ⟨fun hK => drE_ok h h2 hK⟩
def twoR (l : List Nat) (i j : Nat) : Bool :=
  match l with
  | [a, b] => Nat.beq a i && Nat.beq b j
  | _ => false
theorem EvD.two {ops : List Oper} {k : Nat} {done : List Nat} {held : List (Nat × List Nat)} {t : Fr} {m : Mem} {o1 o2 : OutsF} (i j : Nat) (hq : nextQ ops done = none) (hr : twoR (readies ops done) i j = true)
    (e1 : EvE P E inl nl n ops i k done held t m o1) (e2 : EvE P E inl nl n ops j k done held t m o2) : EvD P E inl nl n ops (k + 1, done, held, t, m) (o1 ++ o2) := by
  refine ⟨fun {K} hK => ?_⟩
  have hr1 : readies ops done = [i, j] := by
    revert hr
    unfold twoR
    split
    · rename_i a b he
      intro hr
      simp only [Bool.and_eq_true] at hr
      rw [he, Nat.eq_of_beq_eq_true hr.1, Nat.eq_of_beq_eq_true hr.2]
    · intro hr; cases hr
  dsimp only
  simp only [drawS]
  rw [hq]
  dsimp only
  rw [hr1]
  dsimp only [conjL]
  exact ⟨e1.go fun x hx => hK x (List.mem_append.2 (.inl hx)), e2.go fun x hx => hK x (List.mem_append.2 (.inr hx))⟩
def oneR1 (l : List Nat) (i : Nat) : Bool :=
  match l with
  | [j] => Nat.beq j i
  | _ => false
theorem EvD.one {ops : List Oper} {k : Nat} {done : List Nat} {held : List (Nat × List Nat)} {t : Fr} {m : Mem} {outs : OutsF} (i : Nat) (hq : nextQ ops done = none) (hr : oneR1 (readies ops done) i = true) (e : EvE P E inl nl n ops i k done held t m outs) : EvD P E inl nl n ops (k + 1, done, held, t, m) outs := by
  refine ⟨fun {K} hK => ?_⟩
  have hr1 : readies ops done = [i] := by
    revert hr
    cases readies ops done with
    | nil => intro hr; cases hr
    | cons x l => cases l with
      | nil => intro hr; rw [Nat.eq_of_beq_eq_true hr]
      | cons y l => intro hr; cases hr
  dsimp only
  simp only [drawS]
  rw [hq]
  dsimp only
  rw [hr1]
  dsimp only [conjL]
  exact e.go hK
theorem EvE.call {ops : List Oper} {k : Nat} {done : List Nat} {held : List (Nat × List Nat)} {t t2 : Fr} {m M' ms : Mem} {outs : OutsF} {args al a cc : List V} {g : FuncId} {R : V} (i : Nat) (ix : List Nat) (hk : Nat.ble (i + 1) ops.length = true)
    (hg : (cG ops (opAt ops i)).g t = some (true, t2))
    (hc : opCall (opAt ops i) = true) (hf : (cOpd (opF (opAt ops i))).e t2 = .f g a cc) (hin : inL Gs g = true) (hargs : a ++ evA t2 (cOpds (opArgs (opAt ops i))) ++ cc = args)
    (hn : ix.Nodup) (hix : okIx ix args m = true) (hd : disj (heldB ops i held) ix = true) (hm : subM m ix = ms) (ha : renL (fun b => posL ix b 0) args = al) (hp : PRun P g ms al fun x m' => x = R ∧ m' = M')
    (h2 : EvD P (speKn S Gs) inl nl n ops (k, i :: done, held, (cPut (opAt ops i).dst).p t2 (renV (fK ix m.length) R), backM m ix M') outs) : EvE P (speKn S Gs) inl nl n ops i k done held t m outs := by
  refine ⟨fun {K} hK => ?_⟩
  have ho : ops[i]? = some (opAt ops i) := by
    have e := op_split (Nat.le_of_ble_eq_true hk)
    have hl : (ops.take i).length = i := by rw [List.length_take]; have := Nat.le_of_ble_eq_true hk; omega
    rw [e, List.getElem?_append_right (by omega), hl, Nat.sub_self, ← e]
    simp
  rw [ho]
  dsimp only
  refine guardE_ok (cG_some hg) ?_
  simp only [cond_true]
  generalize hoo : opAt ops i = o at *
  obtain ⟨dst, op, ty, pos, after, guard⟩ := o
  obtain ⟨f, al', tys, rfl⟩ : ∃ f al' tys, op = .call ⟨.value f, al', tys⟩ := by
    unfold opCall at hc
    split at hc
    · rename_i f l tys he; exact ⟨f, l, tys, he⟩
    · cases hc
  have hf : evS t2.l f = .f g a cc := by rw [← cOpd_e]; exact hf
  have hargs : a ++ al'.toList.map (evS t2.l) ++ cc = args := by rw [← evA_eq]; exact hargs
  unfold effS
  simp only [hf]
  rw [hargs]
  unfold callH
  have e : (HE (speKn S Gs) inl nl).sp.f ((heldB ops i held ++ []) ++ []) (callH0 P (HE (speKn S Gs) inl nl) (runS P (HE (speKn S Gs) inl nl) n .out) [] (heldB ops i held ++ [])) g args m = fun K => some (KnP P ((heldB ops i held ++ []) ++ []) g args m K) := by
    funext K
    show cond (inL Gs g) _ _ = _
    rw [hin]; rfl
  rw [e]
  subst hm ha
  simp only [okIx, Bool.and_eq_true] at hix
  refine ⟨ix, R, M', hn, fun b hb => ⟨below_iff hix.1.1 b hb, by simpa using disj_iff hd b hb⟩, fun b hb c hc => allIn_iff hix.2 c (List.mem_flatMap.2 ⟨b, hb, hc⟩), allIn_iff hix.1.2, hp, ?_⟩
  have := h2.go hK
  dsimp only at this
  rw [cPut_eq] at this
  exact this
def cRegD : Code → Bool
  | .region _ _ true => true
  | _ => false
theorem Ev.regD {c : Code} {t : Fr} {m : Mem} {outs outs2 : OutsF} (hr : cRegD c = true) (hd : ((cOp c).all fun o => !isDefer o) = true) (hb : (drawB (cOp c) (cOp c).length [] && Region.noSelect (cOp c).toArray) = true)
    (h : EvD P E inl nl n (cOp c) ((cOp c).length, [], [], t, m) outs) (hcn : agreeF (rlen m) outs = some outs2) : Ev P E inl nl n fi c t m (nrmR outs2) := by
  obtain ⟨id, ops, rfl⟩ : ∃ id ops, c = .region id ops true := by cases c <;> first | (rename_i d; cases d <;> first | exact ⟨_, _, rfl⟩ | cases hr) | cases hr
  refine ⟨fun {Q} hQ => ?_⟩
  simp only [cOp] at *
  simp only [vcC]
  rw [hd]
  simp only [cond_true]
  rw [hb]
  simp only [cond_true]
  rw [rlen_eq] at hcn
  exact h.go (K := canonS m.length (Q .nrm)) (agreeF_ok hcn fun y hy => hQ (.nrm, y.1, y.2) (List.mem_map.2 ⟨y, hy, rfl⟩))
def canonAll (n : Nat) (r : Fr × Mem) : OutsF → Prop
  | [] => True
  | x :: l => canonH n x.1 x.2 = some r ∧ canonAll n r l
theorem canonAll_ok {n : Nat} {r : Fr × Mem} : ∀ {l : OutsF}, canonAll n r l → ∀ x ∈ l, canonH n x.1 x.2 = some r
  | [], _, x, hx => by cases hx
  | y :: l, h, x, hx => by
    rcases List.mem_cons.1 hx with rfl | hx
    · exact h.1
    · exact canonAll_ok h.2 x hx
theorem Ev.regD2 {c : Code} {t t3 : Fr} {m m3 : Mem} {outs : OutsF} (hr : cRegD c = true) (hd : ((cOp c).all fun o => !isDefer o) = true) (hb : (drawB (cOp c) (cOp c).length [] && Region.noSelect (cOp c).toArray) = true)
    (h : EvD P E inl nl n (cOp c) ((cOp c).length, [], [], t, m) outs) (hcn : canonAll (rlen m) (t3, m3) outs) : Ev P E inl nl n fi c t m [(.nrm, t3, m3)] := by
  obtain ⟨id, ops, rfl⟩ : ∃ id ops, c = .region id ops true := by cases c <;> first | (rename_i d; cases d <;> first | exact ⟨_, _, rfl⟩ | cases hr) | cases hr
  refine ⟨fun {Q} hQ => ?_⟩
  simp only [cOp] at *
  simp only [vcC]
  rw [hd]
  simp only [cond_true]
  rw [hb]
  simp only [cond_true]
  rw [rlen_eq] at hcn
  exact h.go (K := canonS m.length (Q .nrm)) fun x hx => canonH_ok (canonAll_ok hcn x hx) (hQ _ (List.mem_singleton_self _))
structure EvL (P : Program) (E : SPE P) (inl : List Nat) (nl n fi : Nat) (n0 : Nat) (c : Code) (k : Nat) (t : Fr) (m : Mem) (rs : Ress) : Prop where
  go : ∀ {Q : PostS}, (∀ r ∈ rs, Q r.1 r.2.1.l r.2.2) → rnds (some n0) (fun Q => vcC P (HE E inl nl) (runS P (HE E inl nl) n) fi c .out [] [] Q) Q k t.l m
theorem EvL.round {n0 k : Nat} {c : Code} {t t1 t2 : Fr} {m m1 m2 : Mem} {rs : Ress} (h : Ev P E inl nl n fi c t m [(.nrm, t1, m1)]) (hc : canonH n0 t1 m1 = some (t2, m2)) (h2 : EvL P E inl nl n fi n0 c k t2 m2 rs) : EvL P E inl nl n fi n0 c (k + 1) t m rs := by
  refine ⟨fun {Q} hQ => ?_⟩
  unfold rnds
  refine h.go fun r hr => ?_
  rw [List.mem_singleton.1 hr]
  exact canonH_ok (K := rnds (some n0) (fun Q => vcC P (HE E inl nl) (runS P (HE E inl nl) n) fi c .out [] [] Q) Q k) hc (h2.go hQ)
theorem EvL.last {n0 k : Nat} {c : Code} {t t1 : Fr} {m m1 : Mem} {e : Ex} (he : e ≠ .nrm) (h : Ev P E inl nl n fi c t m [(e, t1, m1)]) : EvL P E inl nl n fi n0 c (k + 1) t m [(e, t1, m1)] := by
  refine ⟨fun {Q} hQ => ?_⟩
  unfold rnds
  refine h.go fun r hr => ?_
  rw [List.mem_singleton.1 hr]
  have := hQ _ (List.mem_singleton_self _)
  cases e with
  | nrm => exact absurd rfl he
  | ret => exact this
  | ext j => exact this
def cLoop : Code → Bool
  | .loop _ => true
  | _ => false
def cLp : Code → Code
  | .loop c => c
  | c => c
theorem Ev.loopP {n0 : Nat} {c : Code} {t : Fr} {m : Mem} {rs : Ress} (hs : cLoop c = true) (hn : rlen m = n0) (h : EvL P E inl nl n fi n0 (cLp c) nl t m rs) : Ev P E inl nl n fi c t m rs := by
  obtain ⟨b, rfl⟩ : ∃ b, c = .loop b := by cases c <;> first | exact ⟨_, rfl⟩ | cases hs
  refine ⟨fun {Q} hQ => ?_⟩
  have fl : ∀ a b c, findH (HE E inl nl).lo a b c = none := fun a b c => rfl
  simp only [vcC, fl]
  rw [rlen_eq] at hn
  subst hn
  exact h.go hQ
end Go.Proofs.YtedpdommppfmdaaGreat

/- Runs piece by piece: frames and memories told by what is new in them; operations known under a hypothesis. -/
set_option linter.unusedVariables false
namespace Go.Proofs.YtedpdommppfmdaaGreat
open Go Go.Proofs
variable {P : Program} {E S : SPE P} {inl Gs : List Nat} {nl n fi : Nat}
noncomputable def puF : Fr → List (Nat × V) → Fr
  | t, [] => t
  | t, (i, v) :: l => puF ((acc i).s t v) l
def paM : Mem → List (Nat × AB) → Mem → Mem
  | m, [], e => m ++ e
  | m, (i, a) :: l, e => paM (ms m i a) l e
theorem symE {x : Option V} {b c : Bool} (h : x = some (.u (.b b))) (hb : b = c) : x = some (.u (.b c)) := by rw [h, hb]
theorem symN {x : Option V} {b c d : Bool} (h : x = some (.u (.b (not b)))) (hb : b = c) (hd : (not c) = d) : x = some (.u (.b d)) := by rw [h, hb, hd]
theorem eqF_self (x : Int) : eqF x x = true := by rw [eqF_eq]; simp
theorem Ev.codeA {c : Code} {t : Fr} {m : Mem} {rs : Ress} (h : CodeE P E inl nl n c t m = some rs := by kernel_rfl) : Ev P E inl nl n fi c t m rs := Ev.code h
theorem Ev.piecesA {k : Nat} {c : Code} {t t1 : Fr} {m m1 : Mem} {rs : Ress} (h2 : Ev P E inl nl n fi (dropK k c) t1 m1 rs) (h : evK P E inl nl n k c t m = some (t1, m1) := by kernel_rfl) : Ev P E inl nl n fi c t m rs := Ev.pieces h h2
theorem Ev.seqPA {c : Code} {t t1 : Fr} {m m1 : Mem} {rs : Ress} (hx : Ev P E inl nl n fi (cL c) t m [(.nrm, t1, m1)]) (hy : Ev P E inl nl n fi (cR c) t1 m1 rs) (hs : cSeq c = true := by kernel_rfl) : Ev P E inl nl n fi c t m rs := Ev.seqP hs hx hy
theorem Ev.regA {c : Code} {t t3 : Fr} {m m3 : Mem} (h : EvO P E inl nl n (cOp c) (cOp c) t m [(t3, m3)]) (hr : cReg c = true := by kernel_rfl) (hd : ((cOp c).all fun o => !isDefer o) = true := by kernel_rfl) : Ev P E inl nl n fi c t m [(.nrm, t3, m3)] := Ev.reg hr hd h
theorem EvO.opsA {L l : List Oper} {t : Fr} {m : Mem} {outs : OutsF} (h : regE P E inl nl n L l t m = some outs := by kernel_rfl) : EvO P E inl nl n L l t m outs := EvO.ops h
theorem EvD.codeA {ops : List Oper} {k : Nat} {done : List Nat} {held : List (Nat × List Nat)} {t : Fr} {m : Mem} {outs : OutsF} (h : (cDraw P ops k done).r [] [] (callF P E inl (runF P E inl nl n .out) []) held t m = some outs := by kernel_rfl) : EvD P E inl nl n ops (k, done, held, t, m) outs := EvD.code h
theorem EvD.stepsA {ops : List Oper} {outs : OutsF} {j : Nat} {s s' : DSt} (h2 : EvD P E inl nl n ops s' outs) (h : drK P E inl nl n ops j s = some s' := by kernel_rfl) : EvD P E inl nl n ops s outs := EvD.steps h h2
theorem EvD.oneA {ops : List Oper} {k : Nat} {done : List Nat} {held : List (Nat × List Nat)} {t : Fr} {m : Mem} {outs : OutsF} (i : Nat) (e : EvE P E inl nl n ops i k done held t m outs) (hq : nextQ ops done = none := by kernel_rfl) (hr : oneR1 (readies ops done) i = true := by kernel_rfl) : EvD P E inl nl n ops (k + 1, done, held, t, m) outs := EvD.one i hq hr e
theorem EvO.opA {L l : List Oper} {k : Nat} {t t1 t2 : Fr} {m m1 : Mem} {outs : OutsF} {v : V} (hv : (cQ P (opAt l k)).q t2 m1 = some v)
    (h2 : EvO P E inl nl n L (l.drop (k + 1)) ((cPut (opAt l k).dst).p t2 v) m1 outs) (hk : Nat.ble (k + 1) l.length = true := by kernel_rfl)
    (h1 : regE P E inl nl n L (l.take k) t m = some [(t1, m1)] := by kernel_rfl) (hg : (cG L (opAt l k)).g t1 = some (true, t2) := by kernel_rfl)
    (hy : yieldOf t2.l (opAt l k) = none := by kernel_rfl) (hq : quietB (opAt l k) = true := by kernel_rfl) : EvO P E inl nl n L l t m outs := EvO.op hk h1 hg hy hq hv h2
theorem EvO.callA {L l : List Oper} {k : Nat} {t t1 t2 : Fr} {m m1 M' ms : Mem} {outs : OutsF} {args al a cc : List V} {g : FuncId} {R : V} {ix : List Nat} (hp : PRun P g ms al fun x m' => x = R ∧ m' = M')
    (h2 : EvO P (speKn S Gs) inl nl n L (l.drop (k + 1)) ((cPut (opAt l k).dst).p t2 (renV (fK ix m1.length) R)) (backM m1 ix M') outs) (hk : Nat.ble (k + 1) l.length = true := by kernel_rfl)
    (h1 : regE P (speKn S Gs) inl nl n L (l.take k) t m = some [(t1, m1)] := by kernel_rfl) (hg : (cG L (opAt l k)).g t1 = some (true, t2) := by kernel_rfl)
    (hc : opCall (opAt l k) = true := by kernel_rfl) (hf : (cOpd (opF (opAt l k))).e t2 = .f g a cc := by kernel_rfl) (hin : inL Gs g = true := by kernel_rfl) (hargs : a ++ evA t2 (cOpds (opArgs (opAt l k))) ++ cc = args := by kernel_rfl)
    (hn : ix.Nodup := by decide) (hix : okIx ix args m1 = true := by kernel_rfl) (hm : subM m1 ix = ms := by kernel_rfl) (ha : renL (fun b => posL ix b 0) args = al := by kernel_rfl) : EvO P (speKn S Gs) inl nl n L l t m outs :=
  EvO.call ix hk h1 hg hc hf hin hargs hn hix hm ha hp h2
theorem EvE.callA {ops : List Oper} {k : Nat} {done : List Nat} {held : List (Nat × List Nat)} {t t2 : Fr} {m M' ms : Mem} {outs : OutsF} {args al a cc : List V} {g : FuncId} {R : V} {ix : List Nat} (i : Nat) (hp : PRun P g ms al fun x m' => x = R ∧ m' = M')
    (h2 : EvD P (speKn S Gs) inl nl n ops (k, i :: done, held, (cPut (opAt ops i).dst).p t2 (renV (fK ix m.length) R), backM m ix M') outs) (hk : Nat.ble (i + 1) ops.length = true := by kernel_rfl)
    (hg : (cG ops (opAt ops i)).g t = some (true, t2) := by kernel_rfl)
    (hc : opCall (opAt ops i) = true := by kernel_rfl) (hf : (cOpd (opF (opAt ops i))).e t2 = .f g a cc := by kernel_rfl) (hin : inL Gs g = true := by kernel_rfl) (hargs : a ++ evA t2 (cOpds (opArgs (opAt ops i))) ++ cc = args := by kernel_rfl)
    (hn : ix.Nodup := by decide) (hix : okIx ix args m = true := by kernel_rfl) (hd : disj (heldB ops i held) ix = true := by kernel_rfl) (hm : subM m ix = ms := by kernel_rfl) (ha : renL (fun b => posL ix b 0) args = al := by kernel_rfl) : EvE P (speKn S Gs) inl nl n ops i k done held t m outs :=
  EvE.call i ix hk hg hc hf hin hargs hn hix hd hm ha hp h2
theorem Ev.runA (E : SPE P) {f : FuncId} {fn : Func} (hf : P.funcs[f]? = some fn) {c : Code} {m m1 : Mem} {args : List V} {r : Res} {x : V} (h : Ev P E (List.range 600) 300 60 f c (frameF P fn args) m [r]) (he : endKT P fn m r = some (x, m1) := by kernel_rfl)
    (hmix : P.follows .mixedOrders = true := by kernel_rfl) (hn : (fn.name == "runtime.NumGoroutine") = false := by kernel_rfl) (hc : fn.body = some c := by kernel_rfl) : PRun P f m args fun y m' => y = x ∧ m' = m1 := Ev.runT hmix hf hn hc h he
end Go.Proofs.YtedpdommppfmdaaGreat

/- Runs piece by piece: numbers that are not known but for bounds. -/
set_option linter.unusedVariables false
namespace Go.Proofs.YtedpdommppfmdaaGreat
open Go Go.Proofs
variable {P : Program} {E : SPE P} {inl : List Nat} {nl n : Nat}
theorem PRun.wk {f : FuncId} {m : Mem} {args : List V} {K : V → Mem → Prop} (h : PRun P f m args fun x m' => K x m' ∨ K (wkV x) m') : PRun P f m args K :=
  fun D ρ chs C hp vs M F => (h D ρ chs C hp vs M F).mono fun _ _ ⟨D', ρ', chs', x, m', a, b, c, d⟩ => by
    rcases d with d | d
    · exact ⟨D', ρ', chs', x, m', a, b, c, d⟩
    · exact ⟨D', ρ', chs', _, m', a, b, wkV_S c, d⟩
noncomputable def endL (P : Program) (fn : Func) (m : Mem) : Ress → Option Out
  | [] => some []
  | r :: rs => match endKT P fn m r with
    | some y => (match endL P fn m rs with
      | some l => some (y :: l)
      | none => none)
    | none => none
theorem endL_mem {fn : Func} {m : Mem} : ∀ {rs : Ress} {l : Out}, endL P fn m rs = some l → ∀ r ∈ rs, ∃ y ∈ l, endKT P fn m r = some y
  | [], _, _, _, hr => by cases hr
  | r0 :: rs, l, h, r, hr => by
    simp only [endL] at h
    split at h
    · rename_i y hy
      split at h
      · rename_i l2 h2
        cases h
        rcases List.mem_cons.1 hr with rfl | hr
        · exact ⟨y, by simp, hy⟩
        · obtain ⟨z, hz, e⟩ := endL_mem h2 r hr
          exact ⟨z, by simp [hz], e⟩
      · cases h
    · cases h
theorem Ev.runM (hmix : P.follows .mixedOrders = true) {f : FuncId} {fn : Func} (hf : P.funcs[f]? = some fn) (hn : (fn.name == "runtime.NumGoroutine") = false) {c : Code} (hc : fn.body = some c) {m : Mem} {args : List V} {rs : Ress} (h : Ev P E inl nl n f c (frameF P fn args) m rs) {l : Out} (hl : endL P fn m rs = some l) {y : V × Mem} (hm : mergeR l = [y]) : PRun P f m args fun x m' => x = y.1 ∧ m' = y.2 := by
  refine PRun.wk (funSG hmix (H := HE E inl nl) (n := n + 1) (gc := true) hf hn hc ?_)
  show vcC P (HE E inl nl) (runS P (HE E inl nl) n) f c .out [] [] _ _ m
  rw [← frameF_l]
  refine h.go fun x hx => ?_
  obtain ⟨z, hz, he⟩ := endL_mem hl x hx
  have hk := mergeR_ok (K := fun a b => a = y.1 ∧ b = y.2) (l := l) (fun w hw => by rw [hm] at hw; rw [List.mem_singleton.1 hw]; exact ⟨rfl, rfl⟩) z hz
  unfold endKT at he
  split at he
  · rename_i q hq
    exact retF_ok hq (endE_ok he hk)
  · cases he
end Go.Proofs.YtedpdommppfmdaaGreat

/- Copies of empty lists of numbers, and whether such are sorted. -/
set_option maxRecDepth 1000000
namespace Go.Proofs.YtedpdommppfmdaaGreat
open Go Go.Proofs
noncomputable abbrev evC1 : Option Ress := CodeE Tryz.prog (speWhole whp) (List.range 600) 300 60 (bodyOf Tryz.f122) (frameF Tryz.prog Tryz.f122 [.u (.l 1 [])]) []
theorem cl0_S : PRun Tryz.prog 122 [] [.u (.l 1 [])] fun x m => x = .c 1 [] ∧ m = [] :=
  Ev.runM (by kernel_rfl) Tryz.func122 (by kernel_rfl) (c := bodyOf Tryz.f122) (by kernel_rfl) (rs := evC1.getD []) (Ev.code (E := speWhole whp) (inl := List.range 600) (nl := 300) (n := 60) (by kernel_rfl)) (l := (endL Tryz.prog Tryz.f122 [] (evC1.getD [])).getD []) (by kernel_rfl) (y := (.c 1 [], [])) (by kernel_rfl)
noncomputable abbrev evS1 : Option Ress := CodeE Tryz.prog (speWhole whp) (List.range 600) 300 60 (bodyOf Tryz.f141) (frameF Tryz.prog Tryz.f141 [.u (.l 1 [])]) []
theorem so0_S : PRun Tryz.prog 141 [] [.u (.l 1 [])] fun x m => x = .u (.b true) ∧ m = [] :=
  Ev.runM (by kernel_rfl) Tryz.func141 (by kernel_rfl) (c := bodyOf Tryz.f141) (by kernel_rfl) (rs := evS1.getD []) (Ev.code (E := speWhole whp) (inl := List.range 600) (nl := 300) (n := 60) (by kernel_rfl)) (l := (endL Tryz.prog Tryz.f141 [] (evS1.getD [])).getD []) (by kernel_rfl) (y := (.u (.b true), [])) (by kernel_rfl)
def spCl0 {P : Program} {cl : FuncId} (h : PRun P cl [] [.u (.l 1 [])] fun x m => x = .c 1 [] ∧ m = []) : SP P where
  f _ _ g args m K := match args with
    | [.u (.l 1 r)] => cond (Nat.beq g cl) (some (r = [] ∧ K (.c 1 []) m)) none
    | _ => none
  ok := by
    intro ro hr X call hX hc g args m KS p hf hp D ρ chs C h' vs x M F
    split at hf
    · rename_i r
      cases hg : Nat.beq g cl with
      | false => rw [hg] at hf; cases hf
      | true =>
        rw [hg] at hf; cases hf
        obtain ⟨rfl, hK⟩ := hp
        have := Nat.eq_of_beq_eq_true hg
        subst this
        have M0 : SAt D [] [] [] (chs ++ C) h' := ⟨rfl, rfl, fun i L ab ch h1 => by simp at h1, by simpa using M.st⟩
        have F0 : RpL D [] vs [.u (.l 1 [])] := by
          have := (ren_all (f := id) (ρ' := ([] : List Loc))).2.1 F fun b hb => by simp [refsL, refsV] at hb
          rwa [renL_id] at this
        refine (h D [] [] (chs ++ C) h' vs M0 F0).mono ?_
        rintro v h2 ⟨D', ρ', chs', x', m', l, M', r, rfl, rfl⟩
        have hc0 : chs' = [] := List.eq_nil_of_length_eq_zero M'.lch
        subst hc0
        refine ⟨D', ρ, m, chs, _, ⟨l, ⟨[], by simp⟩, fun _ _ _ => rfl, fun _ _ _ => rfl, Nat.le_refl _⟩, M.mono l (by simpa using M'.st), ?_, hK⟩
        cases r with
        | c hr => exact .c hr
    · cases hf
end Go.Proofs.YtedpdommppfmdaaGreat

/- What the functions do, written by program (psv.py) and held against the program by the kernel. -/
set_option linter.unusedVariables false
set_option maxRecDepth 100000
namespace Go.Proofs.YtedpdommppfmdaaGreat
open Go Go.Proofs
theorem mixTw : Tryz.prog.follows .mixedOrders = true := by kernel_rfl
theorem S7 {c_0 : Int} {c_1 : List (List U)} {c_2 : Int} {c_3 : List (List U)} {c_4 : Int} {c_5 : Int} {c_6 : Int} {c_7 : Int} {p : Ob} {b : Ob} {q : Ob} {g : Ob} {Q : V → Mem → Prop} (hh : dup2 (0 ≤ IntKind.wrap .i64 (2 * (List.length c_3 : Int)) ∧ IntKind.wrap .i64 (2 * (List.length c_3 : Int)) ≤ 1000000 ∧ IntKind.wrap .i64 (2 * (List.length c_3 : Int)) = IntKind.wrap .i64 (2 * (List.length c_3 : Int)) ∧ (PRun Tryz.prog 70 [] [.a [.i c_0, .l 7 c_1, .i c_2, .l 4 c_3, .i c_4, .i c_5, .i c_6, .i c_7]] (post [.I] [] (fun x1 => (bif x1 != 0 then Q (.t [.u (.p none), .i x1]) [.o p, .o b, .o q, .o g] else (bif decide ((List.length c_3 : Int) > 8) then Q (.t [.u (.p none), .i 1]) [.o p, .o b, .o q, .o g] else ∃ (I1 : Int → List (List U) → Prop) (f1 : Int → List (List U) → Nat), I1 0 [] ∧ (∀ x2 : Int, ∀ l1 : List (List U), I1 x2 l1 → (bif decide (x2 < (List.length c_3 : Int)) then elL c_3 x2 (fun r1 => dI .i64 (ug r1 0) (fun x3 => dI .i64 (ug r1 1) (fun x4 => dI .i64 (ug r1 2) (fun x5 => dI .i64 (ug r1 3) (fun x6 => (bif decide (x4 < 0) then Q (.t [.u (.p none), .i 1]) [.o p, .o b, .o q, .o g] else (bif decide (x4 > 8) then Q (.t [.u (.p none), .i 1]) [.o p, .o b, .o q, .o g] else apOk l1 [[.n x4, .l 1 [], .l 1 []]] ∧ (bif decide (x5 < 0) then Q (.t [.u (.p none), .i 1]) [.o p, .o b, .o q, .o g] else (bif decide (x5 > 8) then Q (.t [.u (.p none), .i 1]) [.o p, .o b, .o q, .o g] else apOk (l1 ++ [[.n x4, .l 1 [], .l 1 []]]) [[.n x5, .l 1 [], .l 1 []]] ∧ (I1 (IntKind.wrap .i64 (x2 + 1)) (l1 ++ [[.n x4, .l 1 [], .l 1 []]] ++ [[.n x5, .l 1 [], .l 1 []]]) ∧ f1 (IntKind.wrap .i64 (x2 + 1)) (l1 ++ [[.n x4, .l 1 [], .l 1 []]] ++ [[.n x5, .l 1 [], .l 1 []]]) < f1 x2 l1)))))))))) else (bif (List.length (List.replicate (Int.toNat (IntKind.wrap .i64 (2 * (List.length c_3 : Int)))) ([.l 1 [], .l 1 []] : List U)) : Int) != (List.length l1 : Int) then Q (.t [.u (.p none), .i 1]) [.o p, .o b, .o q, .o g] else ∃ (I2 : Int → List (MK × List U) → List (List U) → Prop) (f2 : Int → List (MK × List U) → List (List U) → Nat), I2 0 [] l1 ∧ (∀ x7 : Int, ∀ m1 : List (MK × List U), ∀ l2 : List (List U), I2 x7 m1 l2 → (bif decide (x7 < (List.length (List.replicate (Int.toNat (IntKind.wrap .i64 (2 * (List.length c_3 : Int)))) ([.l 1 [], .l 1 []] : List U)) : Int)) then 0 ≤ x7 ∧ x7 < (List.length (List.replicate (Int.toNat (IntKind.wrap .i64 (2 * (List.length c_3 : Int)))) ([.l 1 [], .l 1 []] : List U)) : Int) ∧ (elL (List.replicate (Int.toNat (IntKind.wrap .i64 (2 * (List.length c_3 : Int)))) ([.l 1 [], .l 1 []] : List U)) x7 (fun r2 => dL 1 (ug r2 0) (fun l3 => dL 1 (ug r2 1) (fun l4 => 0 ≤ x7 ∧ x7 < (List.length l2 : Int) ∧ (elL l2 x7 (fun r3 => dI .i64 (ug r3 0) (fun x8 => (bif (List.length l3 : Int) == x8 then elL l2 x7 (fun r4 => dI .i64 (ug r4 0) (fun x9 => elL l2 x7 (fun r5 => dI .i64 (ug r5 0) (fun x10 => (bif decide ((List.length l3 : Int) > x10) then Q (.t [.u (.p none), .i 1]) [.o p, .o b, .o q, .o g] else (bif decide ((List.length l4 : Int) > 8) then Q (.t [.u (.p none), .i 1]) [.o p, .o b, .o q, .o g] else (bif decide ((List.length l4 : Int) > 0) then (bif !(decide (x9 > 0)) then Q (.t [.u (.p none), .i 1]) [.o p, .o b, .o q, .o g] else PRun Tryz.prog 141 [] [.l 1 l3] (post [.B] [] (fun b1 => (bif !b1 then Q (.t [.u (.p none), .i 1]) [.o p, .o b, .o q, .o g] else l3 = [] ∧ (apOk [] l4 ∧ (match l4 with | _ :: _ => (∃ (I3 : Int → List (MK × List U) → Prop) (f3 : Int → List (MK × List U) → Nat), I3 0 m1 ∧ (∀ x11 : Int, ∀ m2 : List (MK × List U), I3 x11 m2 → (bif decide (x11 < (List.length ([] ++ l4) : Int)) then 0 ≤ x11 ∧ x11 < (List.length ([] ++ l4) : Int) ∧ (elL ([] ++ l4) x11 (fun r6 => dI .i64 (ug r6 0) (fun x12 => mO (rGet m2 (.n x12)) (fun r7 => (dI .i64 (ug r7 0) (fun x13 => Q (.t [.u (.p none), .i 1]) [.o p, .o b, .o q, .o g]) : Prop)) (PRun Tryz.prog 142 [] [.i x12] (post [.B] [] (fun b2 => (bif !b2 then Q (.t [.u (.p none), .i 1]) [.o p, .o b, .o q, .o g] else I3 (IntKind.wrap .i64 (x11 + 1)) (rSet m2 (.n x12) [.n x7]) ∧ f3 (IntKind.wrap .i64 (x11 + 1)) (rSet m2 (.n x12) [.n x7]) < f3 x11 m2 : Prop))))))) else l3 = [] ∧ (l4 = [] ∧ (elL l2 x7 (fun r8 => elL (List.set l2 (Int.toNat x7) (usp r8 1 [.l 1 []])) x7 (fun r9 => I2 (IntKind.wrap .i64 (x7 + 1)) m2 (List.set (List.set l2 (Int.toNat x7) (usp r8 1 [.l 1 []])) (Int.toNat x7) (usp r9 2 [.l 1 []])) ∧ f2 (IntKind.wrap .i64 (x7 + 1)) m2 (List.set (List.set l2 (Int.toNat x7) (usp r8 1 [.l 1 []])) (Int.toNat x7) (usp r9 2 [.l 1 []])) < f2 x7 m1 l2))))))) | [] => (l3 = [] ∧ (l4 = [] ∧ (elL l2 x7 (fun r10 => elL (List.set l2 (Int.toNat x7) (usp r10 1 [.l 1 []])) x7 (fun r11 => I2 (IntKind.wrap .i64 (x7 + 1)) m1 (List.set (List.set l2 (Int.toNat x7) (usp r10 1 [.l 1 []])) (Int.toNat x7) (usp r11 2 [.l 1 []])) ∧ f2 (IntKind.wrap .i64 (x7 + 1)) m1 (List.set (List.set l2 (Int.toNat x7) (usp r10 1 [.l 1 []])) (Int.toNat x7) (usp r11 2 [.l 1 []])) < f2 x7 m1 l2))))) : Prop)) : Prop)))) else PRun Tryz.prog 141 [] [.l 1 l3] (post [.B] [] (fun b3 => (bif !b3 then Q (.t [.u (.p none), .i 1]) [.o p, .o b, .o q, .o g] else l3 = [] ∧ (apOk [] l4 ∧ (match l4 with | _ :: _ => (∃ (I4 : Int → List (MK × List U) → Prop) (f4 : Int → List (MK × List U) → Nat), I4 0 m1 ∧ (∀ x14 : Int, ∀ m3 : List (MK × List U), I4 x14 m3 → (bif decide (x14 < (List.length ([] ++ l4) : Int)) then 0 ≤ x14 ∧ x14 < (List.length ([] ++ l4) : Int) ∧ (elL ([] ++ l4) x14 (fun r12 => dI .i64 (ug r12 0) (fun x15 => mO (rGet m3 (.n x15)) (fun r13 => (dI .i64 (ug r13 0) (fun x16 => Q (.t [.u (.p none), .i 1]) [.o p, .o b, .o q, .o g]) : Prop)) (PRun Tryz.prog 142 [] [.i x15] (post [.B] [] (fun b4 => (bif !b4 then Q (.t [.u (.p none), .i 1]) [.o p, .o b, .o q, .o g] else I4 (IntKind.wrap .i64 (x14 + 1)) (rSet m3 (.n x15) [.n x7]) ∧ f4 (IntKind.wrap .i64 (x14 + 1)) (rSet m3 (.n x15) [.n x7]) < f4 x14 m3 : Prop))))))) else l3 = [] ∧ (l4 = [] ∧ (elL l2 x7 (fun r14 => elL (List.set l2 (Int.toNat x7) (usp r14 1 [.l 1 []])) x7 (fun r15 => I2 (IntKind.wrap .i64 (x7 + 1)) m3 (List.set (List.set l2 (Int.toNat x7) (usp r14 1 [.l 1 []])) (Int.toNat x7) (usp r15 2 [.l 1 []])) ∧ f2 (IntKind.wrap .i64 (x7 + 1)) m3 (List.set (List.set l2 (Int.toNat x7) (usp r14 1 [.l 1 []])) (Int.toNat x7) (usp r15 2 [.l 1 []])) < f2 x7 m1 l2))))))) | [] => (l3 = [] ∧ (l4 = [] ∧ (elL l2 x7 (fun r16 => elL (List.set l2 (Int.toNat x7) (usp r16 1 [.l 1 []])) x7 (fun r17 => I2 (IntKind.wrap .i64 (x7 + 1)) m1 (List.set (List.set l2 (Int.toNat x7) (usp r16 1 [.l 1 []])) (Int.toNat x7) (usp r17 2 [.l 1 []])) ∧ f2 (IntKind.wrap .i64 (x7 + 1)) m1 (List.set (List.set l2 (Int.toNat x7) (usp r16 1 [.l 1 []])) (Int.toNat x7) (usp r17 2 [.l 1 []])) < f2 x7 m1 l2))))) : Prop)) : Prop)))))))))) else elL l2 x7 (fun r18 => dI .i64 (ug r18 0) (fun x17 => (bif decide ((List.length l3 : Int) > x17) then Q (.t [.u (.p none), .i 1]) [.o p, .o b, .o q, .o g] else (bif decide ((List.length l4 : Int) > 8) then Q (.t [.u (.p none), .i 1]) [.o p, .o b, .o q, .o g] else (bif decide ((List.length l4 : Int) > 0) then Q (.t [.u (.p none), .i 1]) [.o p, .o b, .o q, .o g] else PRun Tryz.prog 141 [] [.l 1 l3] (post [.B] [] (fun b5 => (bif !b5 then Q (.t [.u (.p none), .i 1]) [.o p, .o b, .o q, .o g] else l3 = [] ∧ (apOk [] l4 ∧ (match l4 with | _ :: _ => (∃ (I5 : Int → List (MK × List U) → Prop) (f5 : Int → List (MK × List U) → Nat), I5 0 m1 ∧ (∀ x18 : Int, ∀ m4 : List (MK × List U), I5 x18 m4 → (bif decide (x18 < (List.length ([] ++ l4) : Int)) then 0 ≤ x18 ∧ x18 < (List.length ([] ++ l4) : Int) ∧ (elL ([] ++ l4) x18 (fun r19 => dI .i64 (ug r19 0) (fun x19 => mO (rGet m4 (.n x19)) (fun r20 => (dI .i64 (ug r20 0) (fun x20 => Q (.t [.u (.p none), .i 1]) [.o p, .o b, .o q, .o g]) : Prop)) (PRun Tryz.prog 142 [] [.i x19] (post [.B] [] (fun b6 => (bif !b6 then Q (.t [.u (.p none), .i 1]) [.o p, .o b, .o q, .o g] else I5 (IntKind.wrap .i64 (x18 + 1)) (rSet m4 (.n x19) [.n x7]) ∧ f5 (IntKind.wrap .i64 (x18 + 1)) (rSet m4 (.n x19) [.n x7]) < f5 x18 m4 : Prop))))))) else l3 = [] ∧ (l4 = [] ∧ (elL l2 x7 (fun r21 => elL (List.set l2 (Int.toNat x7) (usp r21 1 [.l 1 []])) x7 (fun r22 => I2 (IntKind.wrap .i64 (x7 + 1)) m4 (List.set (List.set l2 (Int.toNat x7) (usp r21 1 [.l 1 []])) (Int.toNat x7) (usp r22 2 [.l 1 []])) ∧ f2 (IntKind.wrap .i64 (x7 + 1)) m4 (List.set (List.set l2 (Int.toNat x7) (usp r21 1 [.l 1 []])) (Int.toNat x7) (usp r22 2 [.l 1 []])) < f2 x7 m1 l2))))))) | [] => (l3 = [] ∧ (l4 = [] ∧ (elL l2 x7 (fun r23 => elL (List.set l2 (Int.toNat x7) (usp r23 1 [.l 1 []])) x7 (fun r24 => I2 (IntKind.wrap .i64 (x7 + 1)) m1 (List.set (List.set l2 (Int.toNat x7) (usp r23 1 [.l 1 []])) (Int.toNat x7) (usp r24 2 [.l 1 []])) ∧ f2 (IntKind.wrap .i64 (x7 + 1)) m1 (List.set (List.set l2 (Int.toNat x7) (usp r23 1 [.l 1 []])) (Int.toNat x7) (usp r24 2 [.l 1 []])) < f2 x7 m1 l2))))) : Prop)) : Prop)))))))))))))))) else (Q (.t [.r 4 0, .i 0]) [.o p, .o b, .o q, .o g, .c [.i c_0, .l 7 c_1, .i c_2, .l 4 c_3, .i c_4, .i c_5, .i c_6, .i c_7, .r 0 0, .r 1 0, .r 2 0, .r 3 0, .r 5 0, .r 6 0, .l 16 []], .c [.nl 13, .i 0], .c [.w 7, .m 8], .w 201 3 l2, .p .n 1 false m1]) ∧ (apOk [] [] ∧ (Q (.t [.r 4 0, .i 0]) [.o p, .o b, .o q, .o g, .c [.i c_0, .l 7 c_1, .i c_2, .l 4 c_3, .i c_4, .i c_5, .i c_6, .i c_7, .r 0 0, .r 1 0, .r 2 0, .r 3 0, .r 5 0, .r 6 0, .c 16 []], .c [.nl 13, .i 0], .c [.w 7, .m 8], .w 201 3 l2, .p .n 1 false m1])))))))) : Prop)))))) : PRun Tryz.prog 7 [.o p, .o b, .o q, .o g] [.a [.i c_0, .l 7 c_1, .i c_2, .l 4 c_3, .i c_4, .i c_5, .i c_6, .i c_7], .r 0 0, .r 1 0, .r 2 0, .r 3 0] Q :=
  funS2 mixTw Tryz.func7 (by kernel_rfl) (H := ⟨[((71, 5, 11), ⟨[(35, .I)], [(8, .mp .n 1 false), (10, .row 201 3)]⟩), ((71, 12, 13), ⟨[(98, .I)], [(8, .mp .n 1 false)]⟩), ((140, 5, 10), ⟨[(17, .I)], [(9, .c [.ow 201 3, .m 8])]⟩)], [], [25, 71, 73, 140], [], [], true, 64, KN.no, false, (spCl0 cl0_S)⟩) (n := 5) (by kernel_rfl) hh
theorem S7N {c_0 : Int} {c_1 : List (List U)} {c_2 : Int} {c_3 : List (List U)} {c_4 : Int} {c_5 : Int} {c_6 : Int} {c_7 : Int} {b : Ob} {q : Ob} {g : Ob} {Q : V → Mem → Prop} (hh : dup2 (0 ≤ IntKind.wrap .i64 (2 * (List.length c_3 : Int)) ∧ IntKind.wrap .i64 (2 * (List.length c_3 : Int)) ≤ 1000000 ∧ IntKind.wrap .i64 (2 * (List.length c_3 : Int)) = IntKind.wrap .i64 (2 * (List.length c_3 : Int)) ∧ (PRun Tryz.prog 70 [] [.a [.i c_0, .l 7 c_1, .i c_2, .l 4 c_3, .i c_4, .i c_5, .i c_6, .i c_7]] (post [.I] [] (fun x1 => (bif x1 != 0 then Q (.t [.u (.p none), .i x1]) [.o b, .o q, .o g] else Q (.t [.u (.p none), .i 1]) [.o b, .o q, .o g] : Prop)))))) : PRun Tryz.prog 7 [.o b, .o q, .o g] [.a [.i c_0, .l 7 c_1, .i c_2, .l 4 c_3, .i c_4, .i c_5, .i c_6, .i c_7], .u (.p none), .r 0 0, .r 1 0, .r 2 0] Q :=
  funS2 mixTw Tryz.func7 (by kernel_rfl) (H := ⟨[], [], [25], [], [], true, 64, KN.no, false, (spCl0 cl0_S)⟩) (n := 3) (by kernel_rfl) hh
end Go.Proofs.YtedpdommppfmdaaGreat

/- Runs: blocks that are handed on alone; results that are given up. -/
set_option linter.unusedVariables false
namespace Go.Proofs.YtedpdommppfmdaaGreat
open Go Go.Proofs
variable {P : Program} {g : FuncId} {m : Mem} {args : List V}
theorem PRun.drop {Q : V → Mem → Prop} (b : Nat) (h : PRun P g m args fun x m' => Q x (ms m' b .x)) : PRun P g m args Q :=
  fun D ρ chs C hp vs M F => (h D ρ chs C hp vs M F).mono fun _ _ ⟨D', ρ', chs', x, m', a, b', c, d⟩ => ⟨D', ρ', chs'.set b [], x, ms m' b .x, a, b'.drop b, c, d⟩
def obOf (ρ : List Loc) (L : Loc) (a : AB) : Ob := ⟨fun D _ c => Ent D ρ L a c, fun h l => by have := h.mono l []; rwa [List.append_nil] at this⟩
theorem PRun.ofO {n : Nat} {R : V} {T m1 m2 : Mem} (h : ∀ Is : List Ob, Is.length = n → PRun P g (Is.map AB.o) args fun x m' => x = R ∧ m' = Is.map AB.o ++ T) (hT : ∀ a ∈ T, a = AB.x) (hargs : ∀ b ∈ refsL args, b < n) (hm : m1.length = n) :
    PRun P g (m1 ++ m2) args fun x m' => x = renV (fun b => cond (Nat.ble (b + 1) n) b (b + m2.length)) R ∧ m' = m1 ++ m2 ++ T := by
  intro D ρ chs C hp vs M ha
  have hρl : ρ.length = n + m2.length := by rw [M.len, List.length_append, hm]
  have hcl : chs.length = n + m2.length := by rw [M.lch, List.length_append, hm]
  have hmg : ∀ {i : Nat}, i < n → (m1 ++ m2)[i]? = some (mg m1 i) := fun {i} hi => by rw [List.getElem?_append_left (by omega)]; exact mg_eq (by omega)
  generalize hIs : (List.range n).map (fun i => obOf ρ ((ρ[i]?).getD ⟨0, none, 0, 0, none⟩) (mg m1 i)) = Is
  have hl : Is.length = n := by rw [← hIs]; simp
  have hget : ∀ {i : Nat}, i < n → Is[i]? = some (obOf ρ ((ρ[i]?).getD ⟨0, none, 0, 0, none⟩) (mg m1 i)) := fun {i} hi => by
    rw [← hIs, List.getElem?_map, List.getElem?_range hi]; rfl
  have M1 : SAt D (ρ.take n) (Is.map AB.o) (chs.take n) (chs.drop n ++ C) hp := ⟨by rw [List.length_take, List.length_map, hl, hρl]; omega, by rw [List.length_take, List.length_map, hl, hcl]; omega, fun i L ab ch h1 h2 h3 => by
    have hi : i < n := by
      have := (List.getElem?_eq_some_iff.1 h2).1
      rwa [List.length_map, hl] at this
    rw [List.getElem?_take_of_lt hi] at h1 h3
    rw [List.getElem?_map, hget hi] at h2
    cases h2
    refine .o ?_
    show Ent D ρ _ (mg m1 i) ch
    rw [h1]
    exact M.ent i L _ ch h1 (hmg hi) h3, by rw [← List.append_assoc, List.take_append_drop]; exact M.st⟩
  have ha1 : RpL D (ρ.take n) vs args := by
    have := (ren_all (f := id) (ρ' := ρ.take n)).2.1 ha fun b hb L hL => by rw [show id b = b from rfl, List.getElem?_take_of_lt (hargs b hb)]; exact hL
    rwa [renL_id] at this
  refine (h Is hl D (ρ.take n) (chs.take n) (chs.drop n ++ C) hp vs M1 ha1).mono ?_
  rintro v h2 ⟨D', ρ', chs', x, m', l, M', r, rfl, rfl⟩
  have hl1 : (ρ.take n).length = n := by rw [List.length_take, hρl]; omega
  have hρ' : ρ'.length = T.length := by have := M'.len; rw [List.length_append, List.length_append, List.length_map, hl, hl1] at this; omega
  have hc' : chs'.length = n + T.length := by rw [M'.lch, List.length_append, List.length_map, hl]
  have hc1 : (chs'.take n).length = n := by rw [List.length_take, hc']; omega
  have hc2 : (chs.drop n).length = m2.length := by rw [List.length_drop, hcl]; omega
  refine ⟨D', ρ', chs'.take n ++ (chs.drop n ++ chs'.drop n), _, m1 ++ m2 ++ T, l, ⟨?_, ?_, fun i L ab ch h1 h2 h3 => ?_, ?_⟩, ?_, rfl, rfl⟩
  · simp only [List.length_append]; omega
  · simp only [List.length_append, List.length_drop, List.length_take]; omega
  · by_cases hi : i < n
    · rw [List.append_assoc, List.getElem?_append_left (by omega)] at h2
      rw [List.getElem?_append_left (by omega)] at h1
      rw [List.getElem?_append_left (by omega), List.getElem?_take_of_lt hi] at h3
      have h4 : (Is.map AB.o ++ T)[i]? = some (.o (obOf ρ ((ρ[i]?).getD ⟨0, none, 0, 0, none⟩) (mg m1 i))) := by
        rw [List.getElem?_append_left (by rw [List.length_map, hl]; exact hi), List.getElem?_map, hget hi]; rfl
      have he := M'.ent i L _ ch (by rw [List.getElem?_append_left (by omega), List.getElem?_take_of_lt hi]; exact h1) h4 h3
      cases he with
      | o he =>
        have he : Ent D' ρ ((ρ[i]?).getD ⟨0, none, 0, 0, none⟩) (mg m1 i) ch := he
        rw [h1] at he
        have e : mg m1 i = ab := by rw [mg_get, h2]; rfl
        rw [e] at he
        exact he.mono (.refl _) _
    · rw [List.getElem?_append_right (by omega), hc1] at h3
      by_cases hj : i < n + m2.length
      · rw [List.getElem?_append_left (by rw [List.length_append]; omega)] at h2
        rw [List.getElem?_append_left (by omega)] at h1
        rw [List.getElem?_append_left (by omega), List.getElem?_drop, show n + (i - n) = i by omega] at h3
        exact (M.ent i L ab ch h1 h2 h3).mono l _
      · rw [List.getElem?_append_right (by omega), hc2, List.getElem?_drop] at h3
        rw [List.getElem?_append_right (by rw [List.length_append]; omega), List.length_append] at h2
        have hab : ab = .x := hT ab (List.mem_of_getElem? h2)
        subst hab
        rw [List.getElem?_append_right (by omega)] at h1
        have h5 : (Is.map AB.o ++ T)[n + (i - n - m2.length)]? = some .x := by
          rw [List.getElem?_append_right (by rw [List.length_map, hl]; omega), List.length_map, hl, ← h2]; congr 1; omega
        have := M'.ent _ L .x ch (by rw [List.getElem?_append_right (by omega), hl1, ← h1]; congr 1; omega) h5 h3
        cases this; exact .x
  · refine M'.st.perm ?_
    have e : chs' = chs'.take n ++ chs'.drop n := (List.take_append_drop n chs').symm
    conv => lhs; rw [e]
    simp only [List.flatten_append, List.append_assoc]
    exact List.Perm.append_left _ (List.perm_append_comm_assoc _ _ _)
  · refine ren_all.1 r fun b hb L hL => ?_
    by_cases hbn : b < n
    · rw [Nat.ble_eq_true_of_le (by omega), cond_true, List.getElem?_append_left (by omega)]
      rw [List.getElem?_append_left (by omega), List.getElem?_take_of_lt hbn] at hL
      exact hL
    · have : Nat.ble (b + 1) n = false := by
        cases hh : Nat.ble (b + 1) n with
        | false => rfl
        | true => exact absurd (Nat.le_of_ble_eq_true hh) (by omega)
      rw [this, cond_false, List.getElem?_append_right (by omega)]
      rw [List.getElem?_append_right (by omega), hl1] at hL
      rw [← hL]; congr 1; omega
end Go.Proofs.YtedpdommppfmdaaGreat

/- Products and parts: Scale; blueprints: may one be; what runs need, how many, how long: the code's and the reference's. -/
set_option linter.unusedVariables false
namespace Go.Proofs.YtedpdommppfmdaaGreat
open Go Go.Proofs Go.Shelf
variable {Q : V → Mem → Prop}
structure Bl where
  makes : Int
  per : Int
  time : Int
  needs : List Stk
  copy : Int
  study : Int
  most : Int
def eB (b : Bl) : List U := [.n b.makes, .n b.per, .n b.time, .l 2 (b.needs.map eS), .n b.copy, .n b.study, .n b.most]
abbrev aB (b : Bl) : V := .a [.i b.makes, .i b.per, .i b.time, .l 2 (b.needs.map eS), .i b.copy, .i b.study, .i b.most]
structure Bl.Rg (b : Bl) : Prop where
  r : rng b.needs
  n : b.needs.length ≤ 1000
def boundsB (b : Bl) (types : Int) : List Bd := [(types, 0, 32), (b.makes, 1, types), (b.per, 1, 1048576), (b.time, 1, 1048576), (b.copy, 0, 1048576), (b.study, 0, 1048576), (b.most, 1, 1000)]
noncomputable def blueE (b : Bl) (types : Int) : Int := if inAll (boundsB b types) = true ∧ chkE b.needs types = 0 ∧ ¬ 0 < cntN b.needs b.makes then 0 else 1
structure BlueOK (b : Bl) (types : Int) : Prop where
  ty : 0 ≤ types ∧ types ≤ 32
  makes : 1 ≤ b.makes ∧ b.makes ≤ types
  per : 1 ≤ b.per ∧ b.per ≤ 1048576
  time : 1 ≤ b.time ∧ b.time ≤ 1048576
  copy : 0 ≤ b.copy ∧ b.copy ≤ 1048576
  study : 0 ≤ b.study ∧ b.study ≤ 1048576
  most : 1 ≤ b.most ∧ b.most ≤ 1000
  needs : CheckOK b.needs types
  self : ¬ 0 < cntN b.needs b.makes
theorem inAll_B {b : Bl} {types : Int} : inAll (boundsB b types) = true ↔ (0 ≤ types ∧ types ≤ 32) ∧ (1 ≤ b.makes ∧ b.makes ≤ types) ∧ (1 ≤ b.per ∧ b.per ≤ 1048576) ∧ (1 ≤ b.time ∧ b.time ≤ 1048576) ∧ (0 ≤ b.copy ∧ b.copy ≤ 1048576) ∧ (0 ≤ b.study ∧ b.study ≤ 1048576) ∧ 1 ≤ b.most ∧ b.most ≤ 1000 := by
  simp only [inAll, boundsB, List.all_cons, List.all_nil, Bool.and_true, Bool.and_eq_true, inn_iff]
theorem blueE_ok {b : Bl} {types : Int} : blueE b types = 0 ↔ BlueOK b types := by
  unfold blueE
  constructor
  · intro h
    split at h
    · rename_i hh
      obtain ⟨h1, h2, h3⟩ := hh
      obtain ⟨a1, a2, a3, a4, a5, a6, a7⟩ := inAll_B.1 h1
      exact ⟨a1, a2, a3, a4, a5, a6, a7, chkE_iff.1 h2, h3⟩
    · cases h
  · intro ⟨a1, a2, a3, a4, a5, a6, a7, h2, h3⟩
    rw [if_pos ⟨inAll_B.2 ⟨a1, a2, a3, a4, a5, a6, a7⟩, chkE_iff.2 h2, h3⟩]
theorem blueE_01 (b : Bl) (types : Int) : blueE b types = 0 ∨ blueE b types = 1 := by unfold blueE; split <;> simp
section
variable {b : Bl} {types : Int}
theorem pBlue_S (hb : b.Rg) (k : Q (.i (blueE b types)) []) : PRun Tryz.prog 191 [] [aB b, .i types] Q := by
  have bad : ¬ (inAll (boundsB b types) = true ∧ chkE b.needs types = 0 ∧ ¬ 0 < cntN b.needs b.makes) → Q (.i 1) [] := fun h => by unfold blueE at k; rwa [if_neg h] at k
  refine S191 (fits_S (L := boundsB b types) (by simp [boundsB]) ?_)
  rw [post_B]
  refine cNot (cB (fun h1 => pCheck_S (by have := hb.n; omega) ?_) fun h1 => bad (by simp [h1]))
  rw [post_I]
  refine cNe (fun h2 => bad (by simp [h2])) fun h2 => pCount_S hb.r hb.n ?_
  rw [post_I]
  refine cIf (fun h3 => bad fun h => h.2.2 h3) fun h3 => ?_
  unfold blueE at k; rwa [if_pos ⟨h1, h2, h3⟩] at k
theorem rBlue_S (hb : b.Rg) (k : Q (.i (blueE b types)) []) : PRun Tryz.prog 28 [] [aB b, .i types] Q := by
  have bad : ¬ BlueOK b types → Q (.i 1) [] := fun h => by rwa [(blueE_01 b types).resolve_left fun h0 => h (blueE_ok.1 h0)] at k
  refine S28 (in3_S ?_)
  rw [post_B]
  refine cNot (cB (fun a1 => in3_S ?_) fun h => bad fun o => by simp [inn, o.ty] at h)
  rw [post_B]
  refine cNot (cB (fun a2 => in3_S ?_) fun h => bad fun o => by simp [inn, o.makes] at h)
  rw [post_B]
  refine cNot (cB (fun a3 => in3_S ?_) fun h => bad fun o => by simp [inn, o.per] at h)
  rw [post_B]
  refine cNot (cB (fun a4 => in3_S ?_) fun h => bad fun o => by simp [inn, o.time] at h)
  rw [post_B]
  refine cNot (cB (fun a5 => in3_S ?_) fun h => bad fun o => by simp [inn, o.copy] at h)
  rw [post_B]
  refine cNot (cB (fun a6 => in3_S ?_) fun h => bad fun o => by simp [inn, o.study] at h)
  rw [post_B]
  refine cNot (cB (fun a7 => rCheck_S hb.r hb.n ?_) fun h => bad fun o => by simp [inn, o.most] at h)
  rw [post_I]
  refine cNe (fun h2 => bad fun o => h2 (chkE_iff.2 o.needs)) fun h2 => rCount_S hb.r hb.n ?_
  rw [post_I]
  refine cIf (fun h3 => bad fun o => o.self h3) fun h3 => ?_
  rwa [blueE_ok.2 ⟨inn_iff.1 a1, inn_iff.1 a2, inn_iff.1 a3, inn_iff.1 a4, inn_iff.1 a5, inn_iff.1 a6, inn_iff.1 a7, chkE_iff.1 h2, h3⟩] at k
end
end Go.Proofs.YtedpdommppfmdaaGreat

/- Nodes in order: the code's and the document's. -/
set_option linter.unusedVariables false
namespace Go.Proofs.YtedpdommppfmdaaGreat
open Go Go.Proofs
variable {Q : V → Mem → Prop}
open Classical in
noncomputable def ordG (n : Int) (L : List Stk) : List Int := if h : ∃ out, Greedy L n out ∧ ∀ k, ¬ Nx1 L n out k then h.choose else []
theorem ordG_eq {n : Int} {L : List Stk} {out : List Int} (hG : Greedy L n out) (hN : ∀ k, ¬ Nx1 L n out k) : ordG n L = out := by
  have h : ∃ out, Greedy L n out ∧ ∀ k, ¬ Nx1 L n out k := ⟨out, hG, hN⟩
  unfold ordG
  rw [dif_pos h]
  obtain ⟨g2, n2⟩ := h.choose_spec
  exact g2.same hG (Nat.le_antisymm (hG.max hN g2) (g2.max n2 hG))
open Classical in
noncomputable def orderR (n : Int) (L : List Stk) : List Int × Int := if gOK n L then (if ((ordG n L).length : Int) < n then ([], 9) else (ordG n L, 0)) else ([], 1)
abbrev vIE (r : List Int × Int) : V := .t [.l 1 (r.1.map eI), .i r.2]
open Classical in
theorem rMay_S {n : Int} {L : List Stk} (hL : L.length ≤ 1000000) (k : Q (.u (.b (decide (gOK n L)))) []) : PRun Tryz.prog 147 [] [.i n, .l 2 (L.map eS)] Q := by
  have bad : ¬ gOK n L → Q (.u (.b false)) [] := fun h => by rwa [decide_eq_false h] at k
  refine S147 (cIf (fun h => bad fun g => by have := g.n0; omega) fun h1 => cIf (fun h => bad fun g => by have := g.n64; omega) fun h2 => cIf (fun h => bad fun g => by have := g.len; simp at h; omega) fun h3 => ?_)
  simp only [List.length_map] at h3
  refine ⟨AtI L fun t _ => ∀ p ∈ t, inn p.1 1 n = true ∧ inn p.2 1 n = true, SufM L, .zero (by omega) (by simp), ?_⟩
  rintro x ⟨t, _ | ⟨a, l⟩, s, ht⟩
  · rw [s.all] at ht
    rw [s.d0]
    rwa [decide_eq_true ⟨by omega, by omega, by omega, ht⟩] at k
  · have ha : a ∈ L := by rw [s.e]; simp
    have hb : ¬ (inn a.1 1 n = true ∧ inn a.2 1 n = true) → Q (.u (.b false)) [] := fun h => bad fun g => h (g.ok a ha)
    simp only [inn_iff] at hb
    simp only [s.d1, s.el, eS, ug0, ugs, dI_n, cond_true]
    refine cIf (fun h => hb (by omega)) fun h1 => cIf (fun h => hb (by omega)) fun h2 => cIf (fun h => hb (by omega)) fun h3 => cIf (fun h => hb (by omega)) fun h4 => s.step fun p hp => ?_
    rcases List.mem_append.1 hp with hp | hp
    · exact ht p hp
    · simp at hp; subst hp; exact ⟨inn_iff.2 (by omega), inn_iff.2 (by omega)⟩
theorem rIn_S {n : Int} {l : List Int} (hl : l.length ≤ 1000000) (k : Q (.u (.b (decide (n ∈ l)))) [.w 3 1 (l.map eI)]) : PRun Tryz.prog 148 [.w 3 1 (l.map eI)] [.w 0, .i n] Q := by
  refine S148w ⟨AtI l fun t _ => n ∉ t, SufM l, .zero (by omega) (by simp), ?_⟩
  rintro x ⟨t, _ | ⟨a, l'⟩, s, ht⟩
  · rw [s.all] at ht
    rw [s.d0]
    rwa [decide_eq_false ht] at k
  · have hlt := s.suf.lt
    rw [s.d1, cond_true]
    refine ⟨hlt.1, by rw [List.length_map]; exact hlt.2, ?_⟩
    simp only [s.el, eI, ug0, dI_n]
    refine cEq (fun h => ?_) fun h => s.step (by simp; exact ⟨ht, fun e => h e.symm⟩)
    rwa [decide_eq_true (show n ∈ l by rw [s.e, ← h]; simp)] at k
theorem rOrder_S {n : Int} {L : List Stk} (hL : L.length ≤ 1000000) (k : Q (vIE (orderR n L)) []) : PRun Tryz.prog 77 [] [.i n, .l 2 (L.map eS)] Q := by
  classical
  refine S77 (rMay_S hL ?_)
  rw [post_B]
  unfold orderR at k
  refine cNot (cIf (fun hg => ?_) fun hg => by rwa [if_neg hg] at k)
  rw [if_pos hg] at k
  obtain ⟨g0, g1, g2, g3⟩ := hg
  refine ⟨fun l => ∃ out : List Int, l = out.map eI ∧ Greedy L n out, fun l => 65 - l.length, ⟨[], rfl, .nil⟩, ?_⟩
  rintro _ ⟨out, rfl, hG⟩
  have hol := nodup_len hG.nodup hG.mem g0
  rw [List.length_map]
  refine cIf (fun hlt => ?_) fun hge => ?_
  rotate_left
  · have hN : ∀ k, ¬ Nx1 L n out k := fun k hk => by
      have h1 : Greedy L n out := hG
      have h2 : (out ++ [k]).Nodup := List.nodup_append.2 ⟨hG.nodup, by simp, fun a ha b hb e => by simp at hb; subst hb; subst e; exact hk.2.2.1 ha⟩
      have := nodup_len h2 (fun x hx => by
        rcases List.mem_append.1 hx with hx | hx
        · exact hG.mem x hx
        · simp at hx; subst hx; exact ⟨hk.1, hk.2.1⟩) g0
      simp at this
      omega
    rwa [ordG_eq hG hN, if_neg hge] at k
  refine ⟨fun y j => 0 ≤ j ∧ j ≤ n ∧ (∀ i, j < i → Nx1 L n out i → y ≠ 0 ∧ y ≤ i) ∧ (y = 0 ∨ Nx1 L n out y), fun _ j => j.toNat, ⟨g0, Int.le_refl _, fun i h1 h2 => by have := h2.2.1; omega, .inl rfl⟩, ?_⟩
  rintro y j ⟨hj0, hj1, hy1, hy2⟩
  refine cIf (fun hj => ?_) fun hj => ?_
  · refine rIn_S (by omega) ?_
    rw [post_Brow]
    refine ⟨rfl, ⟨fun b x => AtI L (fun t _ => b = decide (j ∉ out ∧ ∀ p ∈ t, p.1 = j → p.2 ∈ out)) x, fun _ => SufM L, .zero (by omega) (by simp), ?_⟩⟩
    rintro b x ⟨t, _ | ⟨a, l⟩, s, rfl⟩
    · rw [s.all, s.d0, w64 (x := j - 1) (by omega) (by omega)]
      have hme : (j - 1).toNat < j.toNat := by omega
      rw [cond_false]
      have hnx : (j ∉ out ∧ ∀ p ∈ L, p.1 = j → p.2 ∈ out) ↔ Nx1 L n out j := ⟨fun h => ⟨hj, hj1, h.1, h.2⟩, fun h => h.2.2⟩
      refine cIf (fun h => ?_) fun h => ?_
      · rw [hnx] at h
        refine ⟨⟨by omega, by omega, fun i h1 h2 => ?_, .inr h⟩, hme⟩
        omega
      · rw [hnx] at h
        refine ⟨⟨by omega, by omega, fun i h1 h2 => ?_, hy2⟩, hme⟩
        by_cases hij : i = j
        · subst hij; exact absurd h2 h
        · exact hy1 i (by omega) h2
    · simp only [s.d1, s.el, eS, ug0, ugs, dI_n, cond_true]
      refine cIf (fun hb => ?_) fun hb => ?_
      · refine cNe (fun h => s.step ?_) fun h => ?_
        · refine (decide_eq_true ⟨hb.1, fun p hp e => ?_⟩).symm
          rcases List.mem_append.1 hp with hp | hp
          · exact hb.2 p hp e
          · simp at hp; subst hp; exact absurd e h
        · refine rIn_S (by omega) ?_
          rw [post_Brow]
          refine ⟨rfl, s.step ?_⟩
          rw [decide_eq_decide]
          constructor
          · intro hm
            refine ⟨hb.1, fun p hp e => ?_⟩
            rcases List.mem_append.1 hp with hp | hp
            · exact hb.2 p hp e
            · simp at hp; subst hp; exact hm
          · intro hm
            exact hm.2 a (by simp) h
      · refine s.step ?_
        symm
        rw [decide_eq_false_iff_not]
        exact fun hm => hb ⟨hm.1, fun p hp => hm.2 p (by simp [hp])⟩
  · have hj : j = 0 := by omega
    subst hj
    refine cEq (fun h => ?_) fun h => ?_
    · subst h
      have hN : ∀ k, ¬ Nx1 L n out k := fun i hi => (hy1 i (by have := hi.1; omega) hi).1 rfl
      rwa [ordG_eq hG hN, if_pos hlt] at k
    · have hy := hy2.resolve_left h
      refine ⟨apOk_l (by simp; omega), ⟨out ++ [y], by simp [eI], .snoc hG hy fun i hi => (hy1 i (by have := hi.1; omega) hi).2⟩, by simp; omega⟩
end Go.Proofs.YtedpdommppfmdaaGreat

/- How deep nodes stand: the code's and the document's. -/
set_option linter.unusedVariables false
namespace Go.Proofs.YtedpdommppfmdaaGreat
open Go Go.Proofs
variable {Q : V → Mem → Prop}
def dstep (node : Int) (o : List Int) (x : Int) : List Int := o.set (node - 1).toNat (max (o.getD (node - 1).toNat 0) (o.getD (x - 1).toNat 0 + 1))
def dnode (L : List Stk) (o : List Int) (node : Int) : List Int := (needsOf L node.toNat).foldl (dstep node) o
noncomputable def deepL (n : Int) (L : List Stk) : List Int := (ordG n L).foldl (dnode L) (List.replicate n.toNat 0)
noncomputable def deepR (n : Int) (L : List Stk) : List Int × Int := if (orderR n L).2 = 0 then (deepL n L, 0) else ([], (orderR n L).2)
structure DB (n : Int) (m : Nat) (o : List Int) : Prop where
  len : (o.length : Int) = n
  b : ∀ y ∈ o, 0 ≤ y ∧ y ≤ m
theorem DB.getD {n : Int} {m : Nat} {o : List Int} (d : DB n m o) (k : Nat) : 0 ≤ o.getD k 0 ∧ o.getD k 0 ≤ m := by
  rw [List.getD_eq_getElem?_getD]
  cases h : o[k]? with
  | none => simp
  | some y => exact d.b y (List.mem_of_getElem? h)
theorem DB.step {n : Int} {m : Nat} {o : List Int} (d : DB n m o) (node x : Int) : DB n (m + 1) (dstep node o x) := by
  refine ⟨by unfold dstep; rw [List.length_set]; exact d.len, fun y hy => ?_⟩
  rcases List.mem_or_eq_of_mem_set hy with h | h
  · have := d.b y h; omega
  · have h1 := d.getD (node - 1).toNat
    have h2 := d.getD (x - 1).toNat
    omega
theorem DB.mono {n : Int} {m m' : Nat} {o : List Int} (d : DB n m o) (h : m ≤ m') : DB n m' o := ⟨d.len, fun y hy => by have := d.b y hy; omega⟩
theorem elI {o : List Int} {i y : Int} {K : Int → Prop} (h0 : 0 ≤ i) (h : o[i.toNat]? = some y) : elL (o.map eI) i (fun r => dI .i64 (ug r 0) K) = K y := by
  rw [elL_of (r := eI y) h0 (by rw [List.getElem?_map, h]; rfl)]; rfl
theorem set_eI {o : List Int} {k : Nat} {y : Int} : List.set (o.map eI) k [.n y] = (o.set k y).map eI := by rw [List.map_set]; rfl
theorem get_getD {o : List Int} {k : Nat} (h : k < o.length) : o[k]? = some (o.getD k 0) := by
  rw [List.getElem?_eq_getElem h, List.getD_eq_getElem?_getD, List.getElem?_eq_getElem h]; rfl
theorem step_c {n node x : Int} {m : Nat} {o : List Int} (d : DB n m o) (hm : m ≤ 1000000) (h1 : 1 ≤ node ∧ node ≤ n) (h2 : 1 ≤ x ∧ x ≤ n) (hn : n ≤ 64) {K : List (List U) → Prop} (k : K ((dstep node o x).map eI)) :
    0 ≤ IntKind.wrap .i64 (node - 1) ∧ IntKind.wrap .i64 (node - 1) < (List.length (o.map eI) : Int) ∧ (elL (o.map eI) (IntKind.wrap .i64 (node - 1)) (fun r3 => dI .i64 (ug r3 0) (fun x6 => 0 ≤ IntKind.wrap .i64 (x - 1) ∧ IntKind.wrap .i64 (x - 1) < (List.length (o.map eI) : Int) ∧ (elL (o.map eI) (IntKind.wrap .i64 (x - 1)) (fun r4 => dI .i64 (ug r4 0) (fun x7 => 0 ≤ IntKind.wrap .i64 (node - 1) ∧ IntKind.wrap .i64 (node - 1) < (List.length (o.map eI) : Int) ∧
      K (List.set (o.map eI) (Int.toNat (IntKind.wrap .i64 (node - 1))) [.n (if IntKind.wrap .i64 (x7 + 1) > x6 then IntKind.wrap .i64 (x7 + 1) else x6)]))))))) := by
  have hl := d.len
  rw [w64 (x := node - 1) (by omega) (by omega), w64 (x := x - 1) (by omega) (by omega), List.length_map]
  have e1 := get_getD (o := o) (k := (node - 1).toNat) (by omega)
  have e2 := get_getD (o := o) (k := (x - 1).toNat) (by omega)
  have b2 := d.getD (x - 1).toNat
  refine ⟨by omega, by omega, ?_⟩
  rw [elI (by omega) e1]
  refine ⟨by omega, by omega, ?_⟩
  rw [elI (by omega) e2]
  refine ⟨by omega, by omega, ?_⟩
  rw [w64 (x := o.getD (x - 1).toNat 0 + 1) (by omega) (by omega), set_eI]
  have : (if o.getD (x - 1).toNat 0 + 1 > o.getD (node - 1).toNat 0 then o.getD (x - 1).toNat 0 + 1 else o.getD (node - 1).toNat 0) = max (o.getD (node - 1).toNat 0) (o.getD (x - 1).toNat 0 + 1) := by split <;> omega
  rw [this]
  exact k
theorem rep_eI (n : Nat) : List.replicate n ([.n 0] : List U) = (List.replicate n (0 : Int)).map eI := by simp [eI]
theorem DB.zero {n : Int} (h : 0 ≤ n) : DB n 0 (List.replicate n.toNat 0) := ⟨by simp; omega, fun y hy => by have := List.eq_of_mem_replicate hy; omega⟩
theorem needs_mem {L : List Stk} {k : Nat} {x : Int} (h : x ∈ needsOf L k) : ∃ p ∈ L, p.1 = k ∧ p.2 = x := by
  obtain ⟨p, hp, e⟩ := List.mem_map.1 h
  obtain ⟨h1, h2⟩ := List.mem_filter.1 hp
  exact ⟨p, h1, by simpa using h2, e⟩
theorem pDeep_S {n : Int} {L : List Stk} (k : Q (vIE (deepR n L)) []) : PRun Tryz.prog 137 [] [.i n, .l 2 (L.map eS)] Q := by
  unfold deepR orderR at k
  refine S137 (ordered_S (fun hg => ?_) (fun hg out G N hl => ?_) fun hg out O G N hl => ?_)
  all_goals rw [post_PLI]
  · rw [if_neg hg] at k; exact cNe (fun _ => k) fun h => by cases h
  · rw [if_pos hg, ordG_eq G N, if_pos hl] at k; exact cNe (fun _ => k) fun h => by cases h
  rw [if_pos hg, ordG_eq G N, if_neg hl] at k
  refine cNe (fun h => absurd rfl h) fun _ => ⟨hg.n0, by have := hg.n64; omega, rfl, ?_⟩
  have k : Q (.t [.l 1 ((deepL n L).map eI), .i 0]) [] := k
  have hon := nodup_len G.nodup G.mem hg.n0
  have hn := hg.n64
  have hLl := hg.len
  refine ⟨fun x l => AtI out (fun t _ => ∃ o, l = o.map eI ∧ o = t.foldl (dnode L) (List.replicate n.toNat 0) ∧ DB n (256 * t.length) o) x, fun x _ => SufM out x, .zero (by omega) ⟨_, rep_eI _, rfl, .zero hg.n0⟩, ?_⟩
  rintro x _ ⟨t, _ | ⟨a, l⟩, s, o, rfl, ho, d⟩
  · have e : o = deepL n L := by rw [ho, s.all, deepL, ordG_eq G N]
    rw [s.d0, e]; exact k
  have ha := G.mem a (by rw [s.e]; simp)
  have htl := congrArg List.length s.e
  simp at htl
  simp only [s.d1, s.el, cond_true]
  simp only [eI, ug0, dI_n, oP_s]
  refine idxK_of a.toNat (by omega) (by omega) ?_
  rw [Nat.mul_one, web_needs (by omega), dL_l]
  have hnl := needsOf_len L a.toNat
  let Inv : Int → List (List U) → Prop := fun z l => AtI (needsOf L a.toNat) (fun t2 _ => ∃ o2, l = o2.map eI ∧ o2 = t2.foldl (dstep a) o ∧ DB n (256 * t.length + t2.length) o2) z
  refine ⟨Inv, fun z _ => SufM (needsOf L a.toNat) z, .zero (by omega) ⟨o, rfl, rfl, d⟩, ?_⟩
  rintro z _ ⟨t2, _ | ⟨b, l2⟩, s2, o2, rfl, ho2, d2⟩
  · rw [s2.d0]
    rw [s2.all] at ho2 d2
    refine s.step ⟨o2, rfl, ?_, d2.mono (by simp; omega)⟩
    rw [List.foldl_append, ← ho]; exact ho2
  have hb : 1 ≤ b ∧ b ≤ n := by
    obtain ⟨p, hp, -, rfl⟩ := needs_mem (show b ∈ needsOf L a.toNat by rw [s2.e]; simp)
    exact inn_iff.1 (hg.ok p hp).2
  have htl2 := congrArg List.length s2.e
  simp at htl2
  simp only [s2.d1, s2.el, cond_true, eI, ug0, dI_n]
  refine step_c d2 (by omega) ha hb hn (K := fun l => Inv (IntKind.wrap .i64 (z + 1)) l ∧ SufM (needsOf L a.toNat) (IntKind.wrap .i64 (z + 1)) < SufM (needsOf L a.toNat) z) (s2.step ⟨_, rfl, ?_, ?_⟩)
  · rw [List.foldl_append, ← ho2]; rfl
  · have := d2.step a b; simpa [Nat.add_assoc] using this
theorem needs_fold {n : Int} {L : List Stk} {a : Int} (t : List Stk) (ha : 0 ≤ a) (o : List Int) : (t.foldl (fun o p => if p.1 = a then dstep a o p.2 else o) o) = (needsOf t a.toNat).foldl (dstep a) o := by
  induction t generalizing o with
  | nil => rfl
  | cons p t ih =>
    rw [List.foldl_cons, ih]
    unfold needsOf
    by_cases h : p.1 = a
    · rw [if_pos h, List.filter_cons_of_pos (by simp; omega)]; rfl
    · rw [if_neg h, List.filter_cons_of_neg (by simp; omega)]
theorem rDeep_S {n : Int} {L : List Stk} (hL : L.length ≤ 1000000) (k : Q (vIE (deepR n L)) []) : PRun Tryz.prog 29 [] [.i n, .l 2 (L.map eS)] Q := by
  unfold deepR at k
  refine S29 (rOrder_S hL ?_)
  rw [post_LI]
  refine cNe (fun h => by rwa [if_neg h] at k) fun h => ?_
  rw [if_pos h] at k
  unfold orderR at h ⊢
  split at h
  rotate_left
  · cases h
  rename_i hg
  split at h
  · cases h
  rename_i hl
  rw [if_pos hg, if_neg hl]
  have hn := hg.n64
  have hLl := hg.len
  by_cases hex : ∃ out, Greedy L n out ∧ ∀ k, ¬ Nx1 L n out k
  rotate_left
  · have h0 : ordG n L = [] := by unfold ordG; rw [dif_neg hex]
    have : n = 0 := by have := hg.n0; rw [h0] at hl; simp at hl; omega
    exact absurd ⟨[], .nil, fun k hk => by have := hk.1; have := hk.2.1; omega⟩ hex
  obtain ⟨out, G, N⟩ := hex
  have eG := ordG_eq G N
  have hon := nodup_len G.nodup G.mem hg.n0
  refine ⟨hg.n0, by omega, rfl, ?_⟩
  show ∃ _, _
  simp only [eG]
  refine ⟨fun x l => AtI out (fun t _ => ∃ o, l = o.map eI ∧ o = t.foldl (dnode L) (List.replicate n.toNat 0) ∧ DB n (256 * t.length) o) x, fun x _ => SufM out x, .zero (by omega) ⟨_, rep_eI _, rfl, .zero hg.n0⟩, ?_⟩
  rintro x _ ⟨t, _ | ⟨a, l⟩, s, o, rfl, ho, d⟩
  · have e : o = deepL n L := by rw [ho, s.all, deepL, eG]
    rw [s.d0, e]; exact k
  have ha := G.mem a (by rw [s.e]; simp)
  have htl := congrArg List.length s.e
  simp at htl
  rw [s.d1, cond_true]
  let Inv : Int → List (List U) → Prop := fun z l => AtI L (fun t2 _ => ∃ o2, l = o2.map eI ∧ o2 = t2.foldl (fun o p => if p.1 = a then dstep a o p.2 else o) o ∧ DB n (256 * t.length + t2.length) o2) z
  refine ⟨Inv, fun z _ => SufM L z, .zero (by omega) ⟨o, rfl, rfl, d⟩, ?_⟩
  rintro z _ ⟨t2, _ | ⟨b, l2⟩, s2, o2, rfl, ho2, d2⟩
  · rw [s2.d0]
    rw [s2.all] at ho2 d2
    refine s.step ⟨o2, rfl, ?_, d2.mono (by simp; omega)⟩
    rw [List.foldl_append, ← ho, ho2, needs_fold (n := n) (L := L) L (by omega)]; rfl
  have hb := inn_iff.1 (hg.ok b (by rw [s2.e]; simp)).2
  have htl2 := congrArg List.length s2.e
  simp at htl2
  simp only [s2.d1, s2.el, s.el, cond_true, eI, eS, ug0, ugs, dI_n]
  refine cEq (fun h => ?_) fun h => s2.step ⟨o2, rfl, ?_, d2.mono (by rw [List.length_append]; omega)⟩
  · refine step_c d2 (by omega) ha hb hn (K := fun l => Inv (IntKind.wrap .i64 (z + 1)) l ∧ SufM L (IntKind.wrap .i64 (z + 1)) < SufM L z) (s2.step ⟨_, rfl, ?_, ?_⟩)
    · rw [List.foldl_append, ← ho2]; simp [h]
    · have := d2.step a b.2; simpa [Nat.add_assoc] using this
  · rw [List.foldl_append, ← ho2]; simp [h]
end Go.Proofs.YtedpdommppfmdaaGreat

/- Catalogues: pairs of needs, makers, may one be: the code's and the document's. -/
set_option linter.unusedVariables false
namespace Go.Proofs.YtedpdommppfmdaaGreat
open Go Go.Proofs
variable {Q : V → Mem → Prop}
structure Bay where
  place : Int
  make : Int
  lab : Int
  rate : Int
def eY (b : Bay) : List U := [.n b.place, .n b.make, .n b.lab, .n b.rate]
structure Cat where
  types : Int
  blues : List Bl
  places : Int
  bays : List Bay
  chars : Int
  broker : Int
  least : Int
  sales : Int
abbrev aC (c : Cat) : V := .a [.i c.types, .l 7 (c.blues.map eB), .i c.places, .l 4 (c.bays.map eY), .i c.chars, .i c.broker, .i c.least, .i c.sales]
structure Cat.Rg (c : Cat) : Prop where
  b : ∀ b ∈ c.blues, b.Rg
  nb : c.blues.length ≤ 500
  ny : c.bays.length ≤ 100000
def pairsL (l : List Bl) : List Stk := l.flatMap fun b => b.needs.map fun s => (b.makes, s.1)
theorem pairsL_snoc (t : List Bl) (b : Bl) : pairsL (t ++ [b]) = pairsL t ++ b.needs.map fun s => (b.makes, s.1) := by simp [pairsL]
theorem pairsL_len : ∀ (l : List Bl), (∀ b ∈ l, b.Rg) → (pairsL l).length ≤ 1000 * l.length
  | [], _ => by simp [pairsL]
  | b :: l, h => by
    have h1 := pairsL_len l fun x hx => h x (by simp [hx])
    have h2 := (h b (by simp)).n
    simp only [pairsL, List.flatMap_cons, List.length_append, List.length_map, List.length_cons] at h1 ⊢
    omega
section
variable {c : Cat}
theorem pPairs_S (hc : c.Rg) (k : Q (.l 2 ((pairsL c.blues).map eS)) []) : PRun Tryz.prog 138 [] [aC c] Q := by
  refine S138 ⟨fun l x => AtI c.blues (fun t _ => l = (pairsL t).map eS) x, fun _ => SufM c.blues, .zero (by have := hc.nb; omega) rfl, ?_⟩
  rintro _ x ⟨t, _ | ⟨b, l⟩, s, rfl⟩
  · rw [s.d0, s.all]; exact k
  have hb := hc.b b (by rw [s.e]; simp)
  have hbn := hb.n
  have hnb := hc.nb
  have htl := congrArg List.length s.e
  simp at htl
  have htp := pairsL_len t fun x hx => hc.b x (by rw [s.e]; simp [hx])
  simp only [s.d1, s.el, eB, ug0, ugs, dI_n, dL_l, cond_true]
  refine ⟨fun l x => AtI b.needs (fun t2 _ => l = (pairsL t ++ t2.map fun s => (b.makes, s.1)).map eS) x, fun _ => SufM b.needs, .zero (by omega) (by simp), ?_⟩
  rintro _ y ⟨t2, _ | ⟨a, l2⟩, s2, rfl⟩
  · rw [s2.d0, s2.all]; exact s.step (by rw [pairsL_snoc])
  have htl2 := congrArg List.length s2.e
  simp at htl2
  simp only [s2.d1, s2.el, eS, ug0, ugs, dI_n, cond_true]
  exact ⟨apOk_l (by simp; omega), s2.step (by simp [eS])⟩
theorem rPairs_S (hc : c.Rg) (k : Q (.l 2 ((pairsL c.blues).map eS)) []) : PRun Tryz.prog 30 [] [aC c] Q := by
  refine S30 ⟨fun l x => AtI c.blues (fun t _ => l = (pairsL t).map eS) x, fun _ => SufM c.blues, .zero (by have := hc.nb; omega) rfl, ?_⟩
  rintro _ x ⟨t, _ | ⟨b, l⟩, s, rfl⟩
  · rw [s.d0, s.all]; exact k
  have hb := hc.b b (by rw [s.e]; simp)
  have hbn := hb.n
  have hnb := hc.nb
  have htl := congrArg List.length s.e
  simp at htl
  have htp := pairsL_len t fun x hx => hc.b x (by rw [s.e]; simp [hx])
  rw [s.d1, cond_true]
  refine ⟨fun l x => AtI b.needs (fun t2 _ => l = (pairsL t ++ t2.map fun s => (b.makes, s.1)).map eS) x, fun _ => SufM b.needs, .zero (by omega) (by simp), ?_⟩
  rintro _ y ⟨t2, _ | ⟨a, l2⟩, s2, rfl⟩
  · simp only [s.el, eB, ug0, ugs, dL_l]
    rw [s2.d0, s2.all]; exact s.step (by rw [pairsL_snoc])
  have htl2 := congrArg List.length s2.e
  simp at htl2
  simp only [s.el, eB, ug0, ugs, dL_l, dI_n, s2.d1, s2.el, eS, cond_true]
  exact ⟨apOk_l (by simp; omega), s2.step (by simp [eS])⟩
def feeOK (c : Cat) : Bool := inn c.broker 0 10000 && (inn c.sales 0 10000 && inn c.least 0 1152921504606846976)
theorem pFee_S (k : Q (.i (if feeOK c = true then 0 else 1)) []) : PRun Tryz.prog 195 [] [.a [.i c.broker, .i c.least, .i c.sales]] Q := by
  unfold feeOK at k
  refine S195 (S155 (inn_c ?_))
  rw [post_B]
  refine cB (fun h1 => S155 (inn_c ?_)) fun h => by simpa [h] using k
  rw [post_B]
  refine cB (fun h2 => S221 (inn_c ?_)) fun h => by simpa [h] using k
  rw [post_B]
  exact cB (fun h3 => by simpa [h1, h2, h3] using k) fun h => by simpa [h] using k
theorem rFee_S (k : Q (.i (if feeOK c = true then 0 else 1)) []) : PRun Tryz.prog 27 [] [.a [.i c.broker, .i c.least, .i c.sales]] Q := by
  have bad : ¬ feeOK c = true → Q (.i 1) [] := fun h => by rwa [if_neg h] at k
  simp only [feeOK, Bool.and_eq_true, inn_iff] at bad k
  refine S27 (cIf (fun h => bad (by omega)) fun h1 => cIf (fun h => bad (by omega)) fun h2 => cIf (fun h => bad (by omega)) fun h3 => cIf (fun h => bad (by omega)) fun h4 => cIf (fun h => bad (by omega)) fun h5 => cIf (fun h => bad (by omega)) fun h6 => ?_)
  rwa [if_pos (by omega)] at k
end
end Go.Proofs.YtedpdommppfmdaaGreat
